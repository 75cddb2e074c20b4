/-
  Our texts LexL to NumS1, in one.
-/
import Derived.Test.YtkhcjoomijkfbaaGreatDoorPkB5
import Derived.IntWalk
import Derived.Deep.RegionHeld3
import Derived.Deep.AppendLies
import Derived.PlainAid
set_option maxRecDepth 8000
set_option maxHeartbeats 8000000
namespace Go.Proofs.YtkhcjoomijkfbaaGreatDoor
open Go.RowKit
theorem zaB {fn:Func} {t u v x:Tmp} (h:fn.results=#[.tmp t,.tmp u,.tmp v,.tmp x]) (tmps:Array Value) (P:Program) (w:World) :
   (results fn tmps).run P w=.ok (.tuple #[tmps.getD t undef,tmps.getD u undef,tmps.getD v undef,tmps.getD x undef]) w:=by
 simp [results,h]
def escR (last:Bool) (k:Nat):Option (List UInt8×Nat)→Value
 | none=>.tuple #[.int .u8 0,.int .i64 0,.bool false,.int .i64 (za1 last)]
 | some ([],m)=>.tuple #[.int .u8 0,.int .i64 ((k+m:Nat):Int),.bool false,.int .i64 0]
 | some (c::_,m)=>.tuple #[.int .u8 c.toNat,.int .i64 ((k+m:Nat):Int),.bool true,.int .i64 0]
def zdi (last:Bool) (k:Nat) (V:Option (List UInt8×Nat)) (w:World) (e:Ending) (w':World):Prop:=e=.returned (escR last k V)∧w=w'
theorem zdt {last:Bool} {k:Nat} {V:Option (List UInt8×Nat)} {N j:Nat} {n:Int} (hV:V=some ([UInt8.ofNat N],j)) (hn:n=((k+j:Nat):Int)) (w:World) :
   zdi last k V w (.returned (.tuple #[.int .u8 ((N:Int) % 256),.int .i64 n,.bool true,.int .i64 0])) w:=by
 subst hV;subst hn
 refine ⟨?_,rfl⟩
 rw [show (N:Int) % 256=((UInt8.ofNat N).toNat:Int) by rw [UInt8.toNat_ofNat'];omega];rfl
theorem zeO {last:Bool} {k:Nat} {V:Option (List UInt8×Nat)} {er:Int} (hV:V=none) (he:za1 last=er) (w:World) :
   zdi last k V w (.returned (.tuple #[.int .u8 0,.int .i64 0,.bool false,.int .i64 er])) w:=by
 subst hV;subst he;exact ⟨rfl,rfl⟩
theorem zdS {last:Bool} {k:Nat} {V:Option (List UInt8×Nat)} {j:Nat} {n:Int} (hV:V=some ([],j)) (hn:n=((k+j:Nat):Int)) (w:World) :
   zdi last k V w (.returned (.tuple #[.int .u8 0,.int .i64 n,.bool false,.int .i64 0])) w:=by
 subst hV;subst hn;exact ⟨rfl,rfl⟩
theorem zcH {last:Bool} {k:Nat} {V:Option (List UInt8×Nat)} {c:UInt8} {x n:Int} (hV:V=some ([c],1)) (hx:x=c.toNat) (hn:n=((k+1:Nat):Int)) (w:World) :
   zdi last k V w (.returned (.tuple #[.int .u8 x,.int .i64 n,.bool true,.int .i64 0])) w:=by
 subst hV;subst hx;subst hn;exact ⟨rfl,rfl⟩
theorem zat {c d:UInt8} (h:c≠d) (n:Int) (hn:n=(d.toNat:Int)):((c.toNat:Int)==n)=false:=by
 rw [beq_eq_false_iff_ne];subst hn;exact fun e=>h (UInt8.toNat_inj.1 (Int.ofNat_inj.1 e))
theorem zcc {w:World} {b off cap:Nat} {n:Nat} (k:Nat) (last:Bool) (hk:k<n) (hn:n≤400000) (x y:UInt8) (V:Option (List UInt8×Nat))
   (hc:w.cell? ⟨b,off+k,none⟩=some (.int .u8 x.toNat)) (hV:V=some ([y],1))
   (hx:(x=110∧y=10)∨(x=114∧y=13)∨(x=116∧y=9)∨(x=98∧y=8)∨(x=102∧y=12)) :
   Calls Tryz.prog 115 #[.slice (some ⟨b,off,none⟩) n cap,.int .i64 k,.bool last] w (zdi last k V w):=by
 have HV:=Lib.hid hV
 have hkd:decide ((n:Int)≤k)=false:=decide_eq_false (by omega)
 have hkn:decide (n≤k)=false:=decide_eq_false (by omega)
 have hki:(k:Int)<n:=by omega
 clear hV
 rcases hx with ⟨rfl,rfl⟩|⟨rfl,rfl⟩|⟨rfl,rfl⟩|⟨rfl,rfl⟩|⟨rfl,rfl⟩
 · rw [show ((110:UInt8).toNat:Int)=110 from rfl] at hc
   go_enter Tryz.func115,Tryz.ntmps115
   go_wp2
   (try simp only [Exit.inBlock,Exit.then]);refine bodyPost_ret (zaB rfl _ _ _) rfl ?_
   exact zcH HV.out rfl rfl _
 · rw [show ((114:UInt8).toNat:Int)=114 from rfl] at hc
   go_enter Tryz.func115,Tryz.ntmps115
   go_wp2
   (try simp only [Exit.inBlock,Exit.then]);refine bodyPost_ret (zaB rfl _ _ _) rfl ?_
   exact zcH HV.out rfl rfl _
 · rw [show ((116:UInt8).toNat:Int)=116 from rfl] at hc
   go_enter Tryz.func115,Tryz.ntmps115
   go_wp2
   (try simp only [Exit.inBlock,Exit.then]);refine bodyPost_ret (zaB rfl _ _ _) rfl ?_
   exact zcH HV.out rfl rfl _
 · rw [show ((98:UInt8).toNat:Int)=98 from rfl] at hc
   go_enter Tryz.func115,Tryz.ntmps115
   go_wp2
   (try simp only [Exit.inBlock,Exit.then]);refine bodyPost_ret (zaB rfl _ _ _) rfl ?_
   exact zcH HV.out rfl rfl _
 · rw [show ((102:UInt8).toNat:Int)=102 from rfl] at hc
   go_enter Tryz.func115,Tryz.ntmps115
   go_wp2
   (try simp only [Exit.inBlock,Exit.then]);refine bodyPost_ret (zaB rfl _ _ _) rfl ?_
   exact zcH HV.out rfl rfl _
theorem rescape_any {w:World} {a:Option Addr} {cap:Nat} {bs:List UInt8} (hr:Row w 1 a bs.length cap (bs.map u8C)) (hn:bs.length≤400000) (k:Nat) (last:Bool) :
   Calls Tryz.prog 115 #[.slice a bs.length cap,.int .i64 k,.bool last] w (zdi last k (escV last (bs.drop k)) w):=by
 obtain ⟨V,hV⟩:∃V,V=escV last (bs.drop k):=⟨_,rfl⟩
 rw [←hV]
 by_cases hk:k<bs.length
 case neg =>
   rw [za9 hk] at hV
   have HV:=Lib.hid (show V=none from hV)
   have hkd:decide ((bs.length:Int)≤k)=true:=decide_eq_true (by omega)
   have hkn:decide (bs.length≤k)=true:=decide_eq_true (by omega)
   clear hV hr hk
   go_enter Tryz.func115,Tryz.ntmps115
   go_wp2_with (go_at_call 114;refine (zgw _ _).mono ?_;rintro e w' ⟨rfl,rfl⟩)
   (try simp only [Exit.inBlock,Exit.then]);refine bodyPost_ret (zaB rfl _ _ _) rfl ?_
   exact zeO HV.out rfl _
 obtain ⟨b,off,rfl,-,hc⟩:=hr.at 0 k hk
 unfold u8C at hc
 have hck:=hc k hk
 rw [zaw hk] at hV
 obtain ⟨c,hcc⟩:∃c,bs.getD k 0=c:=⟨_,rfl⟩
 rw [hcc] at hck hV
 by_cases hl:c=110∨c=114∨c=116∨c=98∨c=102
 · rcases hl with rfl|rfl|rfl|rfl|rfl
   · exact zcc k last hk hn 110 10 V hck (hV.trans rfl) (by simp)
   · exact zcc k last hk hn 114 13 V hck (hV.trans rfl) (by simp)
   · exact zcc k last hk hn 116 9 V hck (hV.trans rfl) (by simp)
   · exact zcc k last hk hn 98 8 V hck (hV.trans rfl) (by simp)
   · exact zcc k last hk hn 102 12 V hck (hV.trans rfl) (by simp)
 have n1:c≠110:=fun e=>hl (by simp [e])
 have n2:c≠114:=fun e=>hl (by simp [e])
 have n3:c≠116:=fun e=>hl (by simp [e])
 have n4:c≠98:=fun e=>hl (by simp [e])
 have n5:c≠102:=fun e=>hl (by simp [e])
 rw [zet _ _ _ n1 n2 n3 n4 n5] at hV
 have e1:=zat n1 110 rfl
 have e2:=zat n2 114 rfl
 have e3:=zat n3 116 rfl
 have e4:=zat n4 98 rfl
 have e5:=zat n5 102 rfl
 have hkd:decide ((bs.length:Int)≤k)=false:=decide_eq_false (by omega)
 have hkn:decide (bs.length≤k)=false:=decide_eq_false (by omega)
 have hki:(k:Int)<bs.length:=by omega
 have hk1:k≤399999:=by omega
 have hk2:(k:Int)≤399999:=by omega
 clear hl n1 n2 n3 n4 n5 hr
 by_cases hoc:isOc c=true
 · rw [if_pos hoc,octV_go,Option.map_map] at hV
   have hoc2:=zb3.1 hoc
   have e6:((c.toNat:Int)==10)=false:=by rw [beq_eq_false_iff_ne];omega
   have e7:((c.toNat:Int)==13)=false:=by rw [beq_eq_false_iff_ne];omega
   have d1:decide ((c.toNat:Int)<48)=false:=decide_eq_false (by omega)
   have d2:decide ((55:Int)<c.toNat)=false:=decide_eq_false (by omega)
   have HG := Lib.hid (show V = (zcA last 3 0 (bs.drop (k + 0))).map fun x => ([UInt8.ofNat x.1], 0 + x.2) by
     rw [hV,show bs.drop (k+0)=c::bs.drop (k+1) by rw [Nat.add_zero,zaw hk,hcc],zcA,if_pos hoc,Option.map_map]
     congr 1
     · funext x;simp [Function.comp]
     · rw [show 8 * 0+(c.toNat-48)=c.toNat-48 from by omega])
   have HC:=Lib.hid hc
   clear hV hoc hoc2 hcc hc
   generalize c.toNat=x at *
   go_enter Tryz.func115,Tryz.ntmps115
   go_wp2
   clear hck e1 e2 e3 e4 e5 e6 e7 d1 d2 hkd
   go_loop [11,12] (fun n i=>∃(j N:Nat),j≤3∧n=.int .i64 N∧i=.int .i64 j∧N+1≤8 ^ j∧Hid (V=(zcA last (3-j) N (bs.drop (k+j))).map fun x=>([UInt8.ofNat x.1],j+x.2))) (fun _ i=>3-(intOf i).toNat)
   case atStart=>exact ⟨0,0,by omega,by go_num,by go_num,by omega,HG⟩
   case round =>
     obtain ⟨j,N,hj,rfl,rfl,hN,HJ⟩:=hrel
     have hN5:N≤511:=by
       have:j=0∨j=1∨j=2∨j=3:=by omega
       rcases this with rfl|rfl|rfl|rfl<;>omega
     by_cases hj3:j<3
     · have hjd : decide ((j : Int) < 3) = true := decide_eq_true (by omega)
       obtain ⟨m,hm⟩:∃m,3-j=m+1:=⟨2-j,by omega⟩
       have hg:=HJ.out
       rw [hm] at hg
       by_cases hin:k+j<bs.length
       · have hcj:=HC.out (k+j) hin
         rw [zaw hin,zcA] at hg
         have hid1:decide ((k:Int)+j<bs.length)=true:=decide_eq_true (by omega)
         have hii:(k:Int)+j<bs.length:=by omega
         have hge:decide ((bs.length:Int)≤(k:Int)+j)=false:=decide_eq_false (by omega)
         by_cases hd:isOc (bs.getD (k+j) 0)=true
         · have hd2:=zb3.1 hd
           rw [if_pos hd,Option.map_map] at hg
           have d1:decide ((48:Int)≤(bs.getD (k+j) 0).toNat)=true:=decide_eq_true (by omega)
           have d2:decide (((bs.getD (k+j) 0).toNat:Int)≤55)=true:=decide_eq_true (by omega)
           have HG2 := Lib.hid (show V = (zcA last (3 - (j + 1)) (8 * N + ((bs.getD (k + j) 0).toNat - 48)) (bs.drop (k + (j + 1)))).map fun x => ([UInt8.ofNat x.1], (j + 1) + x.2) by
             rw [hg,show 3-(j+1)=m from by omega]
             congr 1
             funext x
             simp only [Function.comp]
             rw [show j+(x.2+1)=j+1+x.2 from by omega])
           have HB:=Lib.hid (show 8 * N+((bs.getD (k+j) 0).toNat-48)+1≤8 ^ (j+1) by rw [Nat.pow_succ];omega)
           have HE:=Lib.hid (show 8 * (N:Int)+((bs.getD (k+j) 0).toNat:Int)-48=((8 * N+((bs.getD (k+j) 0).toNat-48):Nat):Int) by omega)
           have HJ3:=Lib.hid hj3
           clear hg hm hd HJ
           generalize (bs.getD (k+j) 0).toNat=y at *
           go_wp2
           go_round
           case rel=>exact ⟨j+1,8 * N+(y-48),HJ3.out,by rw [←HE.out],by go_num,HB.out,HG2⟩
           case measure=>have:=HJ3.out;simp [intOf];omega
         · rw [if_neg hd,Option.map_some] at hg
           have HG2:=Lib.hid (show V=some ([UInt8.ofNat N],j) from hg)
           have hd2:¬(48≤(bs.getD (k+j) 0).toNat∧(bs.getD (k+j) 0).toNat≤55):=fun e=>hd (zb3.2 e)
           clear hg hm hd HJ
           generalize (bs.getD (k+j) 0).toNat=y at *
           by_cases hy:(48:Int)≤y
           · have d1:decide ((48:Int)≤y)=true:=decide_eq_true hy
             have d2:decide ((y:Int)≤55)=false:=decide_eq_false (by omega)
             clear hd2
             go_wp2
             (try simp only [Exit.inBlock,Exit.then]);refine bodyPost_ret (zaB rfl _ _ _) rfl ?_
             exact zdt HG2.out rfl _
           · have d1:decide ((48:Int)≤y)=false:=decide_eq_false hy
             clear hd2 hy
             go_wp2
             (try simp only [Exit.inBlock,Exit.then]);refine bodyPost_ret (zaB rfl _ _ _) rfl ?_
             exact zdt HG2.out rfl _
       · rw [za9 hin,zcA] at hg
         have hid1:decide ((k:Int)+j<bs.length)=false:=decide_eq_false (by omega)
         have hge:decide ((bs.length:Int)≤(k:Int)+j)=true:=decide_eq_true (by omega)
         have HG2:=Lib.hid hg
         clear hg hm HJ hin
         cases last
         · go_wp2
           (try simp only [Exit.inBlock,Exit.then]);refine bodyPost_ret (zaB rfl _ _ _) rfl ?_
           exact zeO HG2.out rfl _
         · go_wp2
           (try simp only [Exit.inBlock,Exit.then]);refine bodyPost_ret (zaB rfl _ _ _) rfl ?_
           exact zdt HG2.out rfl _
     · obtain rfl : j = 3 := by omega
       have hg:=HJ.out
       rw [Nat.sub_self,zcA,Option.map_some] at hg
       have HG2:=Lib.hid (show V=some ([UInt8.ofNat N],3) from hg)
       clear hg HJ
       go_wp2
       (try simp only [Exit.inBlock,Exit.then]);refine bodyPost_ret (zaB rfl _ _ _) rfl ?_
       exact zdt HG2.out rfl _
 · rw [if_neg hoc] at hV
   by_cases h10:c=10
   · subst h10
     have HV:=Lib.hid (show V=some ([],1) from hV)
     clear hV hc hcc hoc
     go_enter Tryz.func115,Tryz.ntmps115
     go_wp2
     (try simp only [Exit.inBlock,Exit.then]);refine bodyPost_ret (zaB rfl _ _ _) rfl ?_
     exact zdS HV.out rfl _
   · rw [if_neg h10] at hV
     have e6:=zat h10 10 rfl
     by_cases h13:c=13
     · subst h13
       rw [if_pos rfl] at hV
       by_cases hk3:k+1<bs.length
       · rw [zaw hk3] at hV
         have hc1:=hc (k+1) hk3
         have hid1:decide ((bs.length:Int)≤(k:Int)+1)=false:=decide_eq_false (by omega)
         have hid2:decide ((k:Int)+1<bs.length)=true:=decide_eq_true (by omega)
         have hii:(k:Int)+1<bs.length:=by omega
         clear hc hcc hoc h10
         by_cases hd:bs.getD (k+1) 0=10
         · have HV := Lib.hid (show V = some ([], 2) by rw [hV, hd]; rfl)
           rw [hd] at hc1
           rw [show ((10:UInt8).toNat:Int)=10 from rfl] at hc1
           clear hV hd
           go_enter Tryz.func115,Tryz.ntmps115
           go_wp2
           (try simp only [Exit.inBlock,Exit.then]);refine bodyPost_ret (zaB rfl _ _ _) rfl ?_
           exact zdS HV.out rfl _
         · have HV := Lib.hid (show V = some ([], 1) by rw [hV]; show (some (if bs.getD (k + 1) 0 = 10 then 1 else 0)).map _ = _; rw [if_neg hd]; rfl)
           have e8:=zat hd 10 rfl
           clear hV hd
           generalize (bs.getD (k+1) 0).toNat=y at *
           go_enter Tryz.func115,Tryz.ntmps115
           go_wp2
           (try simp only [Exit.inBlock,Exit.then]);refine bodyPost_ret (zaB rfl _ _ _) rfl ?_
           exact zdS HV.out rfl _
       · rw [za9 hk3] at hV
         have hid1:decide ((bs.length:Int)≤(k:Int)+1)=true:=decide_eq_true (by omega)
         have hid2:decide ((k:Int)+1<bs.length)=false:=decide_eq_false (by omega)
         have HV:=Lib.hid hV
         clear hV hc hcc hoc h10 hk3
         cases last
         · go_enter Tryz.func115,Tryz.ntmps115
           go_wp2
           (try simp only [Exit.inBlock,Exit.then]);refine bodyPost_ret (zaB rfl _ _ _) rfl ?_
           exact zeO HV.out rfl _
         · go_enter Tryz.func115,Tryz.ntmps115
           go_wp2
           (try simp only [Exit.inBlock,Exit.then]);refine bodyPost_ret (zaB rfl _ _ _) rfl ?_
           exact zdS HV.out rfl _
     · rw [if_neg h13] at hV
       have e7:=zat h13 13 rfl
       have HV:=Lib.hid hV
       have hd2:¬(48≤c.toNat∧c.toNat≤55):=fun e=>hoc (zb3.2 e)
       clear hV hoc h10 h13 hcc hc
       by_cases hy:(c.toNat:Int)<48
       · have d1:decide ((c.toNat:Int)<48)=true:=decide_eq_true hy
         clear hd2 hy
         obtain ⟨x,hx⟩:∃x,x=c.toNat:=⟨_,rfl⟩
         rw [←hx] at hck e1 e2 e3 e4 e5 e6 e7 d1
         have HX:=Lib.hid hx
         clear hx
         go_enter Tryz.func115,Tryz.ntmps115
         go_wp2
         (try simp only [Exit.inBlock,Exit.then]);refine bodyPost_ret (zaB rfl _ _ _) rfl ?_
         exact zcH HV.out (by rw [HX.out]) rfl _
       · have d1:decide ((c.toNat:Int)<48)=false:=decide_eq_false hy
         have d2:decide ((55:Int)<c.toNat)=true:=decide_eq_true (by omega)
         clear hd2 hy
         obtain ⟨x,hx⟩:∃x,x=c.toNat:=⟨_,rfl⟩
         rw [←hx] at hck e1 e2 e3 e4 e5 e6 e7 d1 d2
         have HX:=Lib.hid hx
         clear hx
         go_enter Tryz.func115,Tryz.ntmps115
         go_wp2
         (try simp only [Exit.inBlock,Exit.then]);refine bodyPost_ret (zaB rfl _ _ _) rfl ?_
         exact zcH HV.out (by rw [HX.out]) rfl _
theorem octV_bd {last:Bool} {c:UInt8} {t:List UInt8} {x:Nat×Nat} (h:octV last c t=some x):1≤x.2∧x.2≤t.length+1:=by
 rcases t with _|⟨d,_|⟨e,t⟩⟩
 · cases last<;>simp [octV] at h
   subst h;simp
 · by_cases hd:isOc d=true
   · cases last<;>simp [octV,hd] at h
     subst h;simp
   · simp [octV,hd] at h
     subst h;simp
 · by_cases hd:isOc d=true
   · by_cases he:isOc e=true
     · simp [octV,hd,he] at h
       subst h;simp
     · simp [octV,hd,he] at h
       subst h;simp
   · simp [octV,hd] at h
     subst h;simp
theorem escV_bd {last:Bool} {t:List UInt8} {x:List UInt8} {m:Nat} (h:escV last t=some (x,m)):x.length≤1∧1≤m∧m≤t.length:=by
 cases t with
 | nil=>simp [escV] at h
 | cons c t =>
   unfold escV at h
   simp only [List.length_cons] at h ⊢
   by_cases h1:c=110
   · rw [if_pos h1] at h;cases h;simp
   rw [if_neg h1] at h
   by_cases h2:c=114
   · rw [if_pos h2] at h;cases h;simp
   rw [if_neg h2] at h
   by_cases h3:c=116
   · rw [if_pos h3] at h;cases h;simp
   rw [if_neg h3] at h
   by_cases h4:c=98
   · rw [if_pos h4] at h;cases h;simp
   rw [if_neg h4] at h
   by_cases h5:c=102
   · rw [if_pos h5] at h;cases h;simp
   rw [if_neg h5] at h
   by_cases h6:isOc c=true
   · rw [if_pos h6] at h
     obtain ⟨y,hy,hx⟩:=Option.map_eq_some_iff.1 h
     cases hx
     obtain ⟨g1,g2⟩:=octV_bd hy
     exact ⟨by simp,g1,g2⟩
   rw [if_neg h6] at h
   by_cases h7:c=10
   · rw [if_pos h7] at h;cases h;simp
   rw [if_neg h7] at h
   by_cases h8:c=13
   · rw [if_pos h8] at h
     obtain ⟨y,hy,hx⟩:=Option.map_eq_some_iff.1 h
     cases hx
     refine ⟨by simp,by omega,?_⟩
     cases t with
     | nil=>cases last<;>simp [zdI] at hy;subst hy;simp
     | cons d t=>simp only [zdI,Option.some.injEq] at hy;subst hy;simp only [List.length_cons];split<;>omega
   rw [if_neg h8] at h
   cases h;simp
def zgy (bs:List UInt8) (last:Bool) (V:Option (List UInt8×List UInt8)) (w:World) (e:Ending) (w':World):Prop :=
 Below w.heap.size w w'∧match V with
 | none=>e=.returned (.tuple #[.slice none 0 0,.int .i64 0,.int .i64 (za1 last)])
 | some (x,r)=>∃v,e=.returned (.tuple #[v,.int .i64 ((bs.length-r.length:Nat):Int),.int .i64 0])∧w'.ownsRow w.heap.size 5 1 v x.length (x.map u8C)∧r.length≤bs.length
theorem ze6 {bs:List UInt8} {last:Bool} {V:Option (List UInt8×List UInt8)} {w w':World} {er:Int} (hV:V=none) (he:za1 last=er) (hb:Below w.heap.size w w'):zgy bs last V w (.returned (.tuple #[.slice none 0 0,.int .i64 0,.int .i64 er])) w':=by
 subst hV;subst he;exact ⟨hb,rfl⟩
theorem txtR_some {bs:List UInt8} {last:Bool} {V:Option (List UInt8×List UInt8)} {w w':World} {v:Value} {o:List UInt8} {j:Nat} {n:Int} (hV:V=some (o,bs.drop j)) (hj:j≤bs.length) (hn:n=(j:Int)) (hO:w'.ownsRow w.heap.size 5 1 v o.length (o.map u8C)) (hb:Below w.heap.size w w') :
   zgy bs last V w (.returned (.tuple #[v,.int .i64 n,.int .i64 0])) w':=by
 subst hV;subst hn
 refine ⟨hb,v,?_,hO,by simp⟩
 rw [List.length_drop,show bs.length-(bs.length-j)=j from by omega]
theorem zb9 {B:Nat} {w wr w5:World} {v v':Value} {o:List UInt8} (c:UInt8) (O:Obj) (hB:Below B w wr) (hBw:B≤wr.heap.size) (hO:wr.ownsRow B 5 1 v o.length (o.map u8C)) {x:Value} (hx:x=u8C c) (hO5:w5.ownsRow B 5 1 v' (o.length+1) (o.map u8C++[x])) (hg5:(wr.alloc O).grownBy w5 v.ownBlock) :
   w5.ownsRow B 5 1 v' (o++[c]).length ((o++[c]).map u8C)∧Below B w w5:=by
 subst hx
 exact ⟨by simpa using hO5,(hB.alloc hBw _).grown hg5 (by rw [zas];omega) (fun q hq=>(hO.lt q hq).1)⟩
theorem rtext_any {w:World} {a:Option Addr} {cap:Nat} {bs:List UInt8} (hr:Row w 1 a bs.length cap (bs.map u8C)) (hn:bs.length≤400000) (k:Nat) (hk:k≤bs.length) (last:Bool) :
   Calls Tryz.prog 71 #[.slice a bs.length cap,.int .i64 k,.bool last] w (zgy bs last (zbb last 1 [] (bs.drop k)) w):=by
 obtain ⟨V,hV⟩:∃V,V=zbb last 1 [] (bs.drop k):=⟨_,rfl⟩
 rw [←hV]
 have HV:=Lib.hid hV
 have HC:=Lib.hid (fun (W:World) (h:Below w.heap.size w W) j (hj:j<bs.length)=>(hr.mono h).at 0 j hj)
 have HE:=Lib.hid (fun (W:World) (h:Below w.heap.size w W) j=>rescape_any (hr.mono h) hn j last)
 have HK:=Lib.hid hk
 clear hV hr hk
 go_enter Tryz.func71,Tryz.ntmps71
 go_wp2
 go_loopw [1,9,10] (fun i v d wr=>∃(j D:Nat) (o:List UInt8),j≤bs.length∧i=.int .i64 j∧d=.int .i64 D∧1≤D∧D≤j+1∧o.length≤j∧Hid (wr.ownsRow w.heap.size 5 1 v o.length (o.map u8C))∧Hid (Below w.heap.size w wr)∧Hid (V=zbb last D o (bs.drop j))) (fun i _ _ _=>bs.length-(intOf i).toNat)
 case atStart=>exact ⟨k,1,[],HK.out,rfl,by go_num,by omega,by omega,by simp,Lib.hid (World.ownsRow_nil _ _ _ _),Lib.hid (Below.refl _ _),HV⟩
 case round =>
   obtain ⟨j,D,o,hj,rfl,rfl,hD,hDj,hoj,HO,HB,HG⟩:=hrel
   have hsz:=HB.out.size
   by_cases hlt:j<bs.length
   · obtain ⟨b0,off,ha,-,hc⟩:=HC.out wr HB.out j hlt
     unfold u8C at hc
     have hcj:=hc j hlt
     have HCC:=Lib.hid hc
     have hji:decide ((j:Int)<bs.length)=true:=decide_eq_true (by omega)
     have hjl:(j:Int)<bs.length:=by omega
     have hg:=HG.out
     rw [zaw hlt] at hg
     have HCE:=Lib.hid (HE.out wr HB.out (j+1))
     subst ha
     obtain ⟨c,hcc⟩:∃c,bs.getD j 0=c:=⟨_,rfl⟩
     rw [hcc] at hcj hg
     clear hc hcc
     by_cases h92:c=92
     · subst h92
       rw [textV_esc] at hg
       obtain ⟨E,hE⟩:∃E,escV last (bs.drop (j+1))=E:=⟨_,rfl⟩
       rw [hE] at hg HCE
       have hbd:=fun x m h=>escV_bd (last:=last) (t:=bs.drop (j+1)) (x:=x) (m:=m) (hE.trans h)
       rw [List.length_drop] at hbd
       have HBD:=Lib.hid hbd
       clear hE hbd
       unfold zdi at HCE
       cases E with
       | none =>
         have HG2:=Lib.hid (show V=none from hg)
         have HCE2:=Lib.hid (show Calls Tryz.prog 115 #[.slice (some ⟨b0,off,none⟩) bs.length cap,.int .i64 ((j:Int)+1),.bool last] wr fun e w'=>e=.returned (.tuple #[.int .u8 0,.int .i64 0,.bool false,.int .i64 (za1 last)])∧wr=w' from HCE.out)
         have ho1:(za1 last != 0)=true:=by cases last<;>rfl
         have HQ:=Lib.hid (show za1 last=za1 last from rfl)
         clear hg HCE
         generalize hOE:za1 last=oe at *
         have HOE:=Lib.hid hOE
         clear hOE
         go_wp2_with fail
         refine HCE2.out.mono ?_
         rintro e w2 ⟨rfl,rfl⟩
         go_wp2
         go_ret3
         exact ze6 HG2.out HOE.out HB.out
       | some y =>
         obtain ⟨x,m⟩:=y
         obtain ⟨hx1,hm1,hm2⟩:=HBD.out x m rfl
         have hg3:V=zbb last D (o++x) ((bs.drop (j+1)).drop m):=hg
         rw [List.drop_drop] at hg3
         clear hg
         rcases x with _|⟨z,_|⟨z2,zs⟩⟩
         · have HCE2 := Lib.hid (show Calls Tryz.prog 115 #[.slice (some ⟨b0, off, none⟩) bs.length cap, .int .i64 ((j : Int) + 1), .bool last] wr fun e w' => e = .returned (.tuple #[.int .u8 0, .int .i64 ((j + 1 + m : Nat) : Int), .bool false, .int .i64 0]) ∧ wr = w' from HCE.out)
           rw [List.append_nil] at hg3
           have HG3:=Lib.hid hg3
           clear hg3 HCE
           go_wp2_with fail
           refine HCE2.out.mono ?_
           rintro e w2 ⟨rfl,rfl⟩
           go_wp2
           go_roundw
           case rel=>exact ⟨j+1+m,D,o,by omega,by go_num,rfl,hD,by omega,by omega,HO,HB,HG3⟩
           case measure=>simp [intOf];omega
         · have HCE2 := Lib.hid (show Calls Tryz.prog 115 #[.slice (some ⟨b0, off, none⟩) bs.length cap, .int .i64 ((j : Int) + 1), .bool last] wr fun e w' => e = .returned (.tuple #[.int .u8 z.toNat, .int .i64 ((j + 1 + m : Nat) : Int), .bool true, .int .i64 0]) ∧ wr = w' from HCE.out)
           have HG3:=Lib.hid hg3
           clear hg3 HCE
           go_wp2_with fail
           refine HCE2.out.mono ?_
           rintro e w2 ⟨rfl,rfl⟩
           go_wp2_with (at_builtin;refine zay zcR rfl (.tmp 41) (.tmp 43) rfl w.heap.size _ o.length _ rfl (HO.out.alloc _) _ 1 _ _ rfl (zbo _ _ _) (zbH rfl) (by unfold maxLen;omega) (by omega) (by rw [zas];omega) ?_;intro v' w5 hO5 hg5 hnil5;have HP5:=Lib.hid (zb9 z _ HB.out hsz HO.out rfl hO5 hg5);clear hO5 hg5 hnil5)
           go_roundw
           case rel=>exact ⟨j+1+m,D,o++[z],by omega,by go_num,rfl,hD,by omega,by simp;omega,Lib.hid HP5.out.1,Lib.hid HP5.out.2,HG3⟩
           case measure=>simp [intOf];omega
         · simp at hx1
     · have e92:=zat h92 92 rfl
       by_cases h13:c=13
       · subst h13
         rw [textV_nl] at hg
         by_cases hj1:j+1<bs.length
         · have hc1:=HCC.out (j+1) hj1
           rw [zaw hj1] at hg
           have d1:decide ((bs.length:Int)≤(j:Int)+1)=false:=decide_eq_false (by omega)
           have d2:decide ((j:Int)+1<bs.length)=true:=decide_eq_true (by omega)
           have hjl1:(j:Int)+1<bs.length:=by omega
           by_cases h10:bs.getD (j+1) 0=10
           · have hg3:V=zbb last D (o++[10]) (bs.drop (j+1+1)):=by
               rw [hg,h10]
               simp [zdI]
             rw [h10,show ((10:UInt8).toNat:Int)=10 from rfl] at hc1
             have HG3:=Lib.hid hg3
             clear hg hg3 h10 h92
             go_wp2_with (at_builtin;refine zay zcR rfl (.tmp 89) (.tmp 91) rfl w.heap.size _ o.length _ rfl (HO.out.alloc _) _ 1 _ _ rfl (zbo _ _ _) (zbH rfl) (by unfold maxLen;omega) (by omega) (by rw [zas];omega) ?_;intro v' w5 hO5 hg5 hnil5;have HP5:=Lib.hid (zb9 10 _ HB.out hsz HO.out rfl hO5 hg5);clear hO5 hg5 hnil5)
             go_roundw
             case rel=>exact ⟨j+1+1,D,o++[10],by omega,by go_num,rfl,hD,by omega,by simp;omega,Lib.hid HP5.out.1,Lib.hid HP5.out.2,HG3⟩
             case measure=>simp [intOf];omega
           · have hg3:V=zbb last D (o++[10]) (bs.drop (j+1)):=by
               rw [hg,zaw hj1]
               show zbb last D (o++[10]) ((bs.getD (j+1) 0::bs.drop (j+1+1)).drop (if bs.getD (j+1) 0=10 then 1 else 0))=_
               rw [if_neg h10];rfl
             have e10:=zat h10 10 rfl
             have HG3:=Lib.hid hg3
             clear hg hg3 h10 h92
             generalize (bs.getD (j+1) 0).toNat=y at *
             go_wp2_with (at_builtin;refine zay zcR rfl (.tmp 89) (.tmp 91) rfl w.heap.size _ o.length _ rfl (HO.out.alloc _) _ 1 _ _ rfl (zbo _ _ _) (zbH rfl) (by unfold maxLen;omega) (by omega) (by rw [zas];omega) ?_;intro v' w5 hO5 hg5 hnil5;have HP5:=Lib.hid (zb9 10 _ HB.out hsz HO.out rfl hO5 hg5);clear hO5 hg5 hnil5)
             go_roundw
             case rel=>exact ⟨j+1,D,o++[10],by omega,by go_num,rfl,hD,by omega,by simp;omega,Lib.hid HP5.out.1,Lib.hid HP5.out.2,HG3⟩
             case measure=>simp [intOf];omega
         · rw [za9 hj1] at hg
           have d1:decide ((bs.length:Int)≤(j:Int)+1)=true:=decide_eq_true (by omega)
           have d2:decide ((j:Int)+1<bs.length)=false:=decide_eq_false (by omega)
           clear h92
           cases last
           · have HG3:=Lib.hid (show V=none from hg)
             clear hg
             go_wp2
             go_ret3
             exact ze6 HG3.out rfl HB.out
           · have HG3 := Lib.hid (show V = zbb true D (o ++ [10]) (bs.drop (j + 1)) by rw [hg, za9 hj1]; rfl)
             clear hg
             go_wp2_with (at_builtin;refine zay zcR rfl (.tmp 89) (.tmp 91) rfl w.heap.size _ o.length _ rfl (HO.out.alloc _) _ 1 _ _ rfl (zbo _ _ _) (zbH rfl) (by unfold maxLen;omega) (by omega) (by rw [zas];omega) ?_;intro v' w5 hO5 hg5 hnil5;have HP5:=Lib.hid (zb9 10 _ HB.out hsz HO.out rfl hO5 hg5);clear hO5 hg5 hnil5)
             go_roundw
             case rel=>exact ⟨j+1,D,o++[10],by omega,by go_num,rfl,hD,by omega,by simp;omega,Lib.hid HP5.out.1,Lib.hid HP5.out.2,HG3⟩
             case measure=>simp [intOf];omega
       · have e13:=zat h13 13 rfl
         by_cases h40:c=40
         · subst h40
           rw [textV_in] at hg
           have HG3:=Lib.hid hg
           clear hg h92 h13
           go_wp2_with (at_builtin;refine zay zcR rfl (.tmp 89) (.tmp 91) rfl w.heap.size _ o.length _ rfl (HO.out.alloc _) _ 1 _ _ rfl (zbo _ _ _) (zbH rfl) (by unfold maxLen;omega) (by omega) (by rw [zas];omega) ?_;intro v' w5 hO5 hg5 hnil5;have HP5:=Lib.hid (zb9 40 _ HB.out hsz HO.out rfl hO5 hg5);clear hO5 hg5 hnil5)
           go_roundw
           case rel=>exact ⟨j+1,D+1,o++[40],by omega,by go_num,by go_num,by omega,by omega,by simp;omega,Lib.hid HP5.out.1,Lib.hid HP5.out.2,HG3⟩
           case measure=>simp [intOf];omega
         · have e40:=zat h40 40 rfl
           by_cases h41:c=41
           · subst h41
             rw [textV_out] at hg
             by_cases hD1:D=1
             · subst hD1
               rw [if_pos rfl] at hg
               have HG3:=Lib.hid hg
               clear hg h92 h13 h40
               go_wp2
               go_ret3
               exact txtR_some HG3.out hlt rfl HO.out HB.out
             · rw [if_neg hD1] at hg
               have dD:(((D:Int)-1)==0)=false:=by rw [beq_eq_false_iff_ne];omega
               have HG3:=Lib.hid hg
               have HD:=Lib.hid hD1
               clear hg h92 h13 h40 hD1
               go_wp2_with (at_builtin;refine zay zcR rfl (.tmp 89) (.tmp 91) rfl w.heap.size _ o.length _ rfl (HO.out.alloc _) _ 1 _ _ rfl (zbo _ _ _) (zbH rfl) (by unfold maxLen;omega) (by omega) (by rw [zas];omega) ?_;intro v' w5 hO5 hg5 hnil5;have HP5:=Lib.hid (zb9 41 _ HB.out hsz HO.out rfl hO5 hg5);clear hO5 hg5 hnil5)
               go_roundw
               case rel=>exact ⟨j+1,D-1,o++[41],by omega,by go_num,by go_num,by have:=HD.out;omega,by omega,by simp;omega,Lib.hid HP5.out.1,Lib.hid HP5.out.2,HG3⟩
               case measure=>simp [intOf];omega
           · have e41:=zat h41 41 rfl
             rw [zfU _ _ _ _ _ h92 h13 h40 h41] at hg
             have HG3:=Lib.hid hg
             have dD:((D:Int)==0)=false:=by rw [beq_eq_false_iff_ne];omega
             clear hg h92 h13 h40 h41
             obtain ⟨x,hx⟩:∃x,c.toNat=x:=⟨_,rfl⟩
             rw [hx] at hcj e92 e13 e40 e41
             have HX:=Lib.hid (show Value.int .u8 (x:Int)=u8C c by rw [←hx];rfl)
             clear hx
             go_wp2_with (at_builtin;refine zay zcR rfl (.tmp 89) (.tmp 91) rfl w.heap.size _ o.length _ rfl (HO.out.alloc _) _ 1 _ _ rfl (zbo _ _ _) (zbH rfl) (by unfold maxLen;omega) (by omega) (by rw [zas];omega) ?_;intro v' w5 hO5 hg5 hnil5;have HP5:=Lib.hid (zb9 c _ HB.out hsz HO.out HX.out hO5 hg5);clear hO5 hg5 hnil5)
             go_roundw
             case rel=>exact ⟨j+1,D,o++[c],by omega,by go_num,rfl,hD,by omega,by simp;omega,Lib.hid HP5.out.1,Lib.hid HP5.out.2,HG3⟩
             case measure=>simp [intOf];omega
   · obtain rfl : j = bs.length := by omega
     have hg:=HG.out
     rw [List.drop_length,textV_nil] at hg
     have HG2:=Lib.hid hg
     have hji:decide ((bs.length:Int)<bs.length)=false:=decide_eq_false (by omega)
     clear hg
     go_wp2_with (go_at_call 114;refine (zgw _ _).mono ?_;rintro e w' ⟨rfl,rfl⟩)
     go_ret3
     exact ze6 HG2.out rfl HB.out
def pk:List Int→List UInt8
 | a::b::t=>UInt8.ofNat (16 * a+b).toNat::pk t
 | _=>[]
theorem zeN:∀(n:Nat) (l m:List Int),l.length=2 * n→pk (l++m)=pk l++pk m
 | 0, l, m, h => by
   obtain rfl:l=[]:=List.eq_nil_of_length_eq_zero (by omega)
   rfl
 | n + 1, l, m, h => by
   rcases l with _|⟨a,_|⟨b,t⟩⟩
   · simp at h
   · simp at h;omega
   · simp only [List.cons_append,pk]
     rw [zeN n t m (by simp at h;omega)]
structure DgP (ds:List Int) (out:List UInt8) (half:Int):Prop where
 bd:∀d∈ds,0≤d∧d≤15
 form:∃ps:List Int,ps.length=2 * out.length∧pk ps=out∧((half=-1∧ds=ps)∨(0≤half∧ds=ps++[half]))
theorem DgP.nil:DgP [] [] (-1):=⟨fun d h=>(by cases h),[],rfl,rfl,.inl ⟨rfl,rfl⟩⟩
theorem DgP.put {ds:List Int} {out:List UInt8} {half:Int} (h:DgP ds out half) {d:Int} (h0:0≤d) (h1:d≤15):(half<0→DgP (ds++[d]) out d)∧(0≤half→DgP (ds++[d]) (out++[UInt8.ofNat (16 * half+d).toNat]) (-1)):=by
 obtain ⟨hb,ps,hl,hp,hf⟩:=h
 have hb2 : ∀ x ∈ ds ++ [d], 0 ≤ x ∧ x ≤ 15 := fun x hx => by
   rcases List.mem_append.1 hx with h|h
   · exact hb x h
   · simp at h;subst h;exact ⟨h0,h1⟩
 refine ⟨fun hn=>⟨hb2,ps,hl,hp,.inr ⟨h0,?_⟩⟩,fun hn=>⟨hb2,ds++[d],?_,?_,.inl ⟨rfl,rfl⟩⟩⟩
 · rcases hf with ⟨_,rfl⟩|⟨h,_⟩
   · rfl
   · omega
 · rcases hf with ⟨h,_⟩|⟨h,rfl⟩
   · omega
   · simp;omega
 · rcases hf with ⟨h,_⟩|⟨h,rfl⟩
   · omega
   · rw [List.append_assoc,zeN _ _ _ hl,hp];rfl
theorem DgP.odd {ds:List Int} {out:List UInt8} {half:Int} (h:DgP ds out half):((ds.length:Int) % 2=1↔0≤half)∧(half<0→pk ds=out∧ds.length=2 * out.length)∧(0≤half→pk (ds++[0])=out++[UInt8.ofNat (16 * half).toNat]∧(ds++[0]).length=2 * (out++[UInt8.ofNat (16 * half).toNat]).length):=by
 obtain ⟨hb,ps,hl,hp,hf⟩:=h
 rcases hf with ⟨h,rfl⟩|⟨h,rfl⟩
 · exact ⟨by omega,fun _=>⟨hp,hl⟩,fun h=>by omega⟩
 · refine ⟨by simp; omega, fun h => by omega, fun _ => ⟨?_, by simp; omega⟩⟩
   rw [List.append_assoc,zeN _ _ _ hl,hp]
   simp [pk]
theorem pk_get:∀(m:Nat) (ds:List Int),2 * m+1<ds.length→(pk ds)[m]?=some (UInt8.ofNat (16 * ds.getD (2 * m) 0+ds.getD (2 * m+1) 0).toNat)
 | 0, ds, h => by
   rcases ds with _|⟨a,_|⟨b,t⟩⟩
   · simp at h
   · simp at h
   · simp [pk]
 | m + 1, ds, h => by
   rcases ds with _|⟨a,_|⟨b,t⟩⟩
   · simp at h
   · simp at h
   · simp only [pk,List.getElem?_cons_succ]
     rw [pk_get m t (by simp at h;omega)]
     simp [List.getD,show 2 * (m+1)=2 * m+1+1 from by omega]
theorem take_next {X:List UInt8} {m:Nat} {c:UInt8} (h:X[m]?=some c):X.take (m+1)=X.take m++[c]:=by
 have hm:m<X.length:=(List.getElem?_eq_some_iff.1 h).1
 rw [List.take_succ_eq_append_getElem hm,(List.getElem?_eq_some_iff.1 h).2]
def zcT (bs:List UInt8) (last:Bool) (V:Int×List UInt8×List UInt8) (w:World) (e:Ending) (w':World):Prop :=
 Below w.heap.size w w'∧((V.1=1∧e=.returned (.tuple #[.slice none 0 0,.int .i64 0,.int .i64 (za1 last)]))∨(V.1=11∧e=.returned (.tuple #[.slice none 0 0,.int .i64 0,.int .i64 11])) ∨
   (V.1=0∧∃v,e=.returned (.tuple #[v,.int .i64 ((bs.length-V.2.2.length:Nat):Int),.int .i64 0])∧w'.ownsRow w.heap.size 5 1 v V.2.1.length (V.2.1.map u8C)∧V.2.2.length≤bs.length))
theorem hexR_open {bs:List UInt8} {last:Bool} {V:Int×List UInt8×List UInt8} {w w':World} (hV:V=(1,[],[])) (hb:Below w.heap.size w w'):zcT bs last V w (.returned (.tuple #[.slice none 0 0,.int .i64 0,.int .i64 (za1 last)])) w':=by
 subst hV;exact ⟨hb,.inl ⟨rfl,rfl⟩⟩
theorem hexR_form {bs:List UInt8} {last:Bool} {V:Int×List UInt8×List UInt8} {w w':World} (hV:V=(11,[],[])) (hb:Below w.heap.size w w'):zcT bs last V w (.returned (.tuple #[.slice none 0 0,.int .i64 0,.int .i64 11])) w':=by
 subst hV;exact ⟨hb,.inr (.inl ⟨rfl,rfl⟩)⟩
theorem hexR_some {bs:List UInt8} {last:Bool} {V:Int×List UInt8×List UInt8} {w w':World} {v:Value} {o:List UInt8} {j:Nat} {n:Int} (hV:V=(0,o,bs.drop j)) (hj:j≤bs.length) (hn:n=(j:Int)) (hO:w'.ownsRow w.heap.size 5 1 v o.length (o.map u8C)) (hb:Below w.heap.size w w') :
   zcT bs last V w (.returned (.tuple #[v,.int .i64 n,.int .i64 0])) w':=by
 subst hV;subst hn
 refine ⟨hb,.inr (.inr ⟨rfl,v,?_,hO,by simp⟩)⟩
 simp only
 rw [List.length_drop,show bs.length-(bs.length-j)=j from by omega]
def i64C (x:Int):Value:=.int .i64 x
theorem EInt:ElemT Tryz.prog 188 3 (.int .i64 0) 1 8:=⟨Tryz.underlying188,by kernel_rfl,rfl,by omega⟩
structure DgM (w:World) (v:Value) (ds:List Int) (wr:World):Prop where
 row:wr.ownsRow w.heap.size 3 1 v ds.length (ds.map i64C)
 bel:Below w.heap.size w wr
theorem DgM.put {w wr w5:World} {v v':Value} {ds:List Int} (h:DgM w v ds wr) (d:Int) (O:Obj) (hO5:w5.ownsRow w.heap.size 3 1 v' (ds.length+1) (ds.map i64C++[.int .i64 d])) (hg5:(wr.alloc O).grownBy w5 v.ownBlock):DgM w v' (ds++[d]) w5 :=
 ⟨by have h:=hO5;simpa [i64C] using h,(h.bel.alloc h.bel.size _).grown hg5 (by rw [zas];have:=h.bel.size;omega) (fun q hq=>(h.row.lt q hq).1)⟩
theorem DgM.len {w wr:World} {v:Value} {ds:List Int} (h:DgM w v ds wr):∃a cap,v=.slice a ds.length cap∧Row wr 1 a ds.length cap (ds.map i64C):=by
 obtain ⟨a,cap,hv,hr,-⟩:=Row.of_owns h.row
 exact ⟨a,cap,hv,hr⟩
theorem zdV {w:World} {a:Option Addr} {cap:Nat} {bs:List UInt8} (hr:Row w 1 a bs.length cap (bs.map u8C)) (hn:bs.length≤400000) (k:Nat) (hk:k≤bs.length) (last:Bool) :
   Calls Tryz.prog 70 #[.slice a bs.length cap,.int .i64 k,.bool last] w (zcT bs last (hexV [] (-1) (bs.drop k)) w):=by
 obtain ⟨V,hV⟩:∃V,V=hexV [] (-1) (bs.drop k):=⟨_,rfl⟩
 rw [←hV]
 have HV:=Lib.hid hV
 have HC:=Lib.hid (fun (W:World) (h:Below w.heap.size w W) j (hj:j<bs.length)=>(hr.mono h).at 0 j hj)
 have HK:=Lib.hid hk
 clear hV hr hk
 go_enter Tryz.func70,Tryz.ntmps70
 go_wp2
 go_loopw [1,9] (fun i v wr=>∃(j:Nat) (ds:List Int) (o:List UInt8) (half:Int),j≤bs.length∧i=.int .i64 j∧ds.length≤j∧Hid (DgM w v ds wr)∧Hid (DgP ds o half)∧Hid (V=hexV o half (bs.drop j))) (fun i _ _=>bs.length-(intOf i).toNat)
 case atStart=>exact ⟨k,[],[],-1,HK.out,rfl,by simp,Lib.hid ⟨World.ownsRow_nil _ _ _ _,Below.refl _ _⟩,Lib.hid DgP.nil,HV⟩
 case round =>
   obtain ⟨j,ds,o,half,hj,rfl,hdj,HD,HP,HG⟩:=hrel
   have hsz:=HD.out.bel.size
   by_cases hlt:j<bs.length
   · obtain ⟨b0,off,ha,-,hc⟩:=HC.out wr HD.out.bel j hlt
     unfold u8C at hc
     have hcj:=hc j hlt
     have hji:decide ((j:Int)<bs.length)=true:=decide_eq_true (by omega)
     have hjn:decide (j<bs.length)=true:=decide_eq_true hlt
     have hjl:(j:Int)<bs.length:=by omega
     have hg:=HG.out
     rw [zaw hlt,hexV] at hg
     subst ha
     obtain ⟨c,hcc⟩:∃c,bs.getD j 0=c:=⟨_,rfl⟩
     rw [hcc] at hcj hg
     clear hc hcc
     by_cases h62:c=62
     · subst h62
       rw [if_pos rfl] at hg
       obtain ⟨p1,p2,p3⟩:=HP.out.odd
       have HBD:=Lib.hid HP.out.bd
       rw [show ((62:UInt8).toNat:Int)=62 from rfl] at hcj
       by_cases hh:0≤half
       · rw [if_pos hh] at hg
         have ho:((ds.length:Int) % 2==1)=true:=by rw [beq_iff_eq];exact p1.2 hh
         obtain ⟨q1,q2⟩:=p3 hh
         obtain ⟨va,vcap,hv,-⟩:=HD.out.len
         have HBD2 := Lib.hid (show ∀ d ∈ ds ++ [0], 0 ≤ d ∧ d ≤ 15 from fun d hd => by
           rcases List.mem_append.1 hd with h|h
           · exact HBD.out d h
           · simp at h;subst h;omega)
         have HQ1:=Lib.hid q1
         have HQ2:=Lib.hid q2
         have HG2:=Lib.hid hg
         subst hv
         clear hg p1 p2 p3 q1 q2 hh
         generalize o++[UInt8.ofNat (16 * half).toNat]=X at *
         go_wp2_with (at_builtin;refine zay EInt rfl (.tmp 29) (.tmp 30) rfl w.heap.size _ ds.length _ rfl (HD.out.row.alloc _) _ 1 _ _ rfl (zbo _ _ _) (zbH rfl) (by unfold maxLen;omega) (by omega) (by rw [zas];omega) ?_;intro v' w5 hO5 hg5 hnil5;have HD5:=Lib.hid (HD.out.put 0 _ hO5 hg5);clear hO5 hg5 hnil5)
         have hl5:(ds++[0]).length≤400001:=by simp;omega
         have HEB:=HBD2
         generalize ds++[0]=es at *
         obtain ⟨ea,ec,hv5,hrow5⟩:=HD5.out.len
         subst hv5
         have HR5:=Lib.hid hrow5
         clear hrow5 HBD HBD2 HD HP HG
         go_loopw [11,12] (fun v i wq=>∃(m p:Nat),m≤X.length∧i=.int .i64 p∧Hid (p=2 * m)∧Hid (wq.ownsRow w5.heap.size 5 1 v (X.take m).length ((X.take m).map u8C))∧Hid (Below w5.heap.size w5 wq)) (fun _ i _=>es.length-(intOf i).toNat)
         case atStart=>exact ⟨0,0,Nat.zero_le _,by go_num,Lib.hid rfl,Lib.hid (by simpa using World.ownsRow_nil _ _ _ _),Lib.hid (Below.refl _ _)⟩
         case round =>
           obtain ⟨m,p,hm,rfl,HPM,HO,HB⟩:=hrel
           have hq2:=HQ2.out
           have hpm:=HPM.out
           have hsz5:=HB.out.size
           by_cases hmx:m<X.length
           · have hp1 : p + 1 < es.length := by omega
             obtain ⟨b1,off1,he,hb15,hce0⟩:=HR5.out.at 0 p (by omega)
             have hce:=fun k hk=>cell?_keep HB.out (hce0 k hk)
             clear hce0
             have c1:=hce p (by omega)
             have c2:=hce (p+1) hp1
             unfold i64C at c1 c2
             have hA:=HEB.out (es.getD p 0) (by rw [List.getD_eq_getElem?_getD,List.getElem?_eq_getElem (by omega)];exact List.getElem_mem _)
             have hB:=HEB.out (es.getD (p+1) 0) (by rw [List.getD_eq_getElem?_getD,List.getElem?_eq_getElem (by omega)];exact List.getElem_mem _)
             have HPK:=Lib.hid (take_next (X:=X) (m:=m) (by rw [←HQ1.out,pk_get m es (by omega),←hpm]))
             have hpn:decide (p<es.length)=true:=decide_eq_true (by omega)
             have hpi:(p:Int)<es.length:=by omega
             have hpi1:(p:Int)+1<es.length:=by omega
             have hmo:(X.take m).length≤400000:=by rw [List.length_take];omega
             have HM:=Lib.hid (show es.length-(p+2)<es.length-p by omega)
             have HP2:=Lib.hid (show p+2=2 * (m+1) by omega)
             have HMX:=Lib.hid hmx
             have hpl:p≤400001:=by omega
             subst he
             obtain ⟨hA0,hA1⟩:=hA
             obtain ⟨hB0,hB1⟩:=hB
             generalize es.getD p 0=A at *
             generalize es.getD (p+1) 0=B at *
             have HBY:=Lib.hid (zex (16 * A+B) (by omega) (by omega))
             clear hce hq2 hpm hm hmx
             go_wp2
             have ak:u11.ownBlock≠some b1:=fun e=>by have h1:=(HO.out.lt b1 e).1;omega
             have hb1w:b1<wr.heap.size:=by omega
             have i1:IntKind.i64.wrap ((p:Int)+1)=(p:Int)+1:=IntWalk.i64_in _ (by omega)
             have i2:IntKind.i64.wrap (16 * A)=16 * A:=IntWalk.i64_in _ (by omega)
             have i3:IntKind.i64.wrap (16 * A+B)=16 * A+B:=IntWalk.i64_in _ (by omega)
             have i4:IntKind.u8.wrap (16 * A+B)=16 * A+B:=by rw [IntKind.wrap_u8];omega
             have i5:((p:Int)+1).toNat=p+1:=by omega
             have i6:(0:Int)≤(p:Int)+1:=by omega
             have hBw:w5.heap.size≤wr.heap.size:=hsz5
             go_region_held3 (fun w' => w'.cell? ⟨b1, off1 + p, none⟩ = some (.int .i64 A) ∧ w'.cell? ⟨b1, off1 + (p + 1), none⟩ = some (.int .i64 B))
               (first
                 | go_keep
                 | (go_split_ands
                    refine ⟨?_,?_⟩
                    · (rw [hgrow.cell_far _ (by simp;omega) (Ne.symm ak)];assumption)
                    · (rw [hgrow.cell_far _ (by simp;omega) (Ne.symm ak)];assumption)))
               ((obtain ⟨iB,hiB,hzB,hsB,hbB⟩:=info_parts zcR.info;refine step_append_lies _ (by rfl) _ _ _ (by rfl) w5.heap.size 5 iB _ 1 1 zcR.und hiB hzB hsB hbB rfl (by omega) u11 (X.take m).length _ (by rfl) ((HO.out.alloc _).drew) ⟨wr.heap.size,0,none⟩ 1 1 [.int .u8 (16 * A+B)] (by rfl) (by rfl) (World.news_of_block (cs:=#[.int .u8 (16 * A+B)]) (t:=5) (fr:=(0,0)) (heap_alloc_new wr _)) (by simp [Value.oneCell']) (by omega) (by unfold maxLen;omega) (by omega) (by simp;omega) (wr.heap.size+1) (by simp) ?_;intro g cap7 w7 hO7 hgrow hat hlt))
             have HP7:=Lib.hid (show w7.ownsRow w5.heap.size 5 1 (.slice (some ⟨g,0,none⟩) ((X.take m).length+1) cap7) (X.take m++[UInt8.ofNat (16 * A+B).toNat]).length ((X.take m++[UInt8.ofNat (16 * A+B).toNat]).map u8C)∧Below w5.heap.size w5 w7 from
               zb9 (UInt8.ofNat (16 * A+B).toNat) (.cells #[.int .u8 (16 * A+B)] 5) (zag HB.out 1) hBw (zbr HO.out (zag (Below.refl _ _) 1)) (show Value.int .u8 (16 * A+B)=u8C (UInt8.ofNat (16 * A+B).toNat) from congrArg (Value.int .u8) HBY.out) hO7 hgrow)
             clear hgrow hO7 hat hlt ak i1 i2 i3 i4 i5 i6
             go_wp2
             go_roundw
             case rel=>exact ⟨m+1,p+2,HMX.out,by go_num,HP2,Lib.hid (by rw [HPK.out];have h:=HP7.out.1;simpa using h),Lib.hid HP7.out.2⟩
             case measure=>have:=HM.out;simp only [intOf];omega
           · have hpn : decide (p < es.length) = false := decide_eq_false (by omega)
             have hX:X.take m=X:=List.take_of_length_le (by omega)
             have HO2:=Lib.hid (by have h:=HO.out;rw [hX] at h;exact h)
             have HBB:=Lib.hid (HD5.out.bel.trans (HB.out.mono HD5.out.bel.size))
             have hoo:=zbX HO2.out HD5.out.bel.size
             have HOO:=Lib.hid hoo
             clear hX hoo hq2 hpm hmx
             go_wp2
             go_ret3
             exact hexR_some HG2.out hlt rfl HOO.out HBB.out
       · have hh2 : half < 0 := by omega
         rw [if_neg hh] at hg
         have ho:((ds.length:Int) % 2==1)=false:=by rw [beq_eq_false_iff_ne];exact fun e=>hh (p1.1 e)
         obtain ⟨q1,q2⟩:=p2 hh2
         obtain ⟨ea,ec,hv5,hrow5⟩:=HD.out.len
         have HQ1:=Lib.hid q1
         have HQ2:=Lib.hid q2
         have HG2:=Lib.hid hg
         have HEB:=HBD
         have HD5:=HD
         have HR5:=Lib.hid hrow5
         have hl5:ds.length≤400001:=by omega
         subst hv5
         clear hg p1 p2 p3 q1 q2 hh hh2 hrow5 HBD HD HP HG
         obtain ⟨X,hX⟩:∃X,X=o:=⟨_,rfl⟩
         subst hX
         obtain ⟨es,hes⟩:∃es,es=ds:=⟨_,rfl⟩
         subst hes
         go_wp2
         obtain ⟨w5,hw5⟩:∃w5:World,w5=wr:=⟨_,rfl⟩
         subst hw5
         go_loopw [11,12] (fun v i wq=>∃(m p:Nat),m≤X.length∧i=.int .i64 p∧Hid (p=2 * m)∧Hid (wq.ownsRow w5.heap.size 5 1 v (X.take m).length ((X.take m).map u8C))∧Hid (Below w5.heap.size w5 wq)) (fun _ i _=>es.length-(intOf i).toNat)
         case atStart=>exact ⟨0,0,Nat.zero_le _,by go_num,Lib.hid rfl,Lib.hid (by simpa using World.ownsRow_nil _ _ _ _),Lib.hid (Below.refl _ _)⟩
         case round =>
           obtain ⟨m,p,hm,rfl,HPM,HO,HB⟩:=hrel
           have hq2:=HQ2.out
           have hpm:=HPM.out
           have hsz5:=HB.out.size
           by_cases hmx:m<X.length
           · have hp1 : p + 1 < es.length := by omega
             obtain ⟨b1,off1,he,hb15,hce0⟩:=HR5.out.at 0 p (by omega)
             have hce:=fun k hk=>cell?_keep HB.out (hce0 k hk)
             clear hce0
             have c1:=hce p (by omega)
             have c2:=hce (p+1) hp1
             unfold i64C at c1 c2
             have hA:=HEB.out (es.getD p 0) (by rw [List.getD_eq_getElem?_getD,List.getElem?_eq_getElem (by omega)];exact List.getElem_mem _)
             have hB:=HEB.out (es.getD (p+1) 0) (by rw [List.getD_eq_getElem?_getD,List.getElem?_eq_getElem (by omega)];exact List.getElem_mem _)
             have HPK:=Lib.hid (take_next (X:=X) (m:=m) (by rw [←HQ1.out,pk_get m es (by omega),←hpm]))
             have hpn:decide (p<es.length)=true:=decide_eq_true (by omega)
             have hpi:(p:Int)<es.length:=by omega
             have hpi1:(p:Int)+1<es.length:=by omega
             have hmo:(X.take m).length≤400000:=by rw [List.length_take];omega
             have HM:=Lib.hid (show es.length-(p+2)<es.length-p by omega)
             have HP2:=Lib.hid (show p+2=2 * (m+1) by omega)
             have HMX:=Lib.hid hmx
             have hpl:p≤400001:=by omega
             subst he
             obtain ⟨hA0,hA1⟩:=hA
             obtain ⟨hB0,hB1⟩:=hB
             generalize es.getD p 0=A at *
             generalize es.getD (p+1) 0=B at *
             have HBY:=Lib.hid (zex (16 * A+B) (by omega) (by omega))
             clear hce hq2 hpm hm hmx
             go_wp2
             have ak:u11.ownBlock≠some b1:=fun e=>by have h1:=(HO.out.lt b1 e).1;omega
             have hb1w:b1<wr.heap.size:=by omega
             have i1:IntKind.i64.wrap ((p:Int)+1)=(p:Int)+1:=IntWalk.i64_in _ (by omega)
             have i2:IntKind.i64.wrap (16 * A)=16 * A:=IntWalk.i64_in _ (by omega)
             have i3:IntKind.i64.wrap (16 * A+B)=16 * A+B:=IntWalk.i64_in _ (by omega)
             have i4:IntKind.u8.wrap (16 * A+B)=16 * A+B:=by rw [IntKind.wrap_u8];omega
             have i5:((p:Int)+1).toNat=p+1:=by omega
             have i6:(0:Int)≤(p:Int)+1:=by omega
             have hBw:w5.heap.size≤wr.heap.size:=hsz5
             go_region_held3 (fun w' => w'.cell? ⟨b1, off1 + p, none⟩ = some (.int .i64 A) ∧ w'.cell? ⟨b1, off1 + (p + 1), none⟩ = some (.int .i64 B))
               (first
                 | go_keep
                 | (go_split_ands
                    refine ⟨?_,?_⟩
                    · (rw [hgrow.cell_far _ (by simp;omega) (Ne.symm ak)];assumption)
                    · (rw [hgrow.cell_far _ (by simp;omega) (Ne.symm ak)];assumption)))
               ((obtain ⟨iB,hiB,hzB,hsB,hbB⟩:=info_parts zcR.info;refine step_append_lies _ (by rfl) _ _ _ (by rfl) w5.heap.size 5 iB _ 1 1 zcR.und hiB hzB hsB hbB rfl (by omega) u11 (X.take m).length _ (by rfl) ((HO.out.alloc _).drew) ⟨wr.heap.size,0,none⟩ 1 1 [.int .u8 (16 * A+B)] (by rfl) (by rfl) (World.news_of_block (cs:=#[.int .u8 (16 * A+B)]) (t:=5) (fr:=(0,0)) (heap_alloc_new wr _)) (by simp [Value.oneCell']) (by omega) (by unfold maxLen;omega) (by omega) (by simp;omega) (wr.heap.size+1) (by simp) ?_;intro g cap7 w7 hO7 hgrow hat hlt))
             have HP7:=Lib.hid (show w7.ownsRow w5.heap.size 5 1 (.slice (some ⟨g,0,none⟩) ((X.take m).length+1) cap7) (X.take m++[UInt8.ofNat (16 * A+B).toNat]).length ((X.take m++[UInt8.ofNat (16 * A+B).toNat]).map u8C)∧Below w5.heap.size w5 w7 from
               zb9 (UInt8.ofNat (16 * A+B).toNat) (.cells #[.int .u8 (16 * A+B)] 5) (zag HB.out 1) hBw (zbr HO.out (zag (Below.refl _ _) 1)) (show Value.int .u8 (16 * A+B)=u8C (UInt8.ofNat (16 * A+B).toNat) from congrArg (Value.int .u8) HBY.out) hO7 hgrow)
             clear hgrow hO7 hat hlt ak i1 i2 i3 i4 i5 i6
             go_wp2
             go_roundw
             case rel=>exact ⟨m+1,p+2,HMX.out,by go_num,HP2,Lib.hid (by rw [HPK.out];have h:=HP7.out.1;simpa using h),Lib.hid HP7.out.2⟩
             case measure=>have:=HM.out;simp only [intOf];omega
           · have hpn : decide (p < es.length) = false := decide_eq_false (by omega)
             have hX:X.take m=X:=List.take_of_length_le (by omega)
             have HO2:=Lib.hid (by have h:=HO.out;rw [hX] at h;exact h)
             have HBB:=Lib.hid (HD5.out.bel.trans (HB.out.mono HD5.out.bel.size))
             have hoo:=zbX HO2.out HD5.out.bel.size
             have HOO:=Lib.hid hoo
             clear hX hoo hq2 hpm hmx
             go_wp2
             go_ret3
             exact hexR_some HG2.out hlt rfl HOO.out HBB.out
     · have e62:=zat h62 62 rfl
       rw [if_neg h62] at hg
       have HSP:=Lib.hid (fun W=>zd2 c.toNat W)
       rw [←zfG] at HSP
       have HHX:=Lib.hid (fun W=>zgr c W)
       have hbd:=zfZ c
       generalize c.toNat=x at *
       obtain ⟨sp,hsp⟩:∃sp,isSp c=sp:=⟨_,rfl⟩
       rw [hsp] at HSP hg
       clear hsp h62
       generalize hexD c=d at *
       cases sp
       · rw [if_neg (by decide)] at hg
         by_cases hd:d<0
         · rw [if_pos hd] at hg
           have hdd:decide (d<0)=true:=decide_eq_true hd
           have HG2:=Lib.hid hg
           clear hg hd
           go_wp2_with (first
             | (go_at_call 112;refine (HSP.out _).mono ?_;rintro e w' ⟨rfl,rfl⟩)
             | (go_at_call 113;refine (HHX.out _).mono ?_;rintro e w' ⟨rfl,rfl⟩))
           go_ret3
           exact hexR_form HG2.out HD.out.bel
         · rw [if_neg hd] at hg
           have hdd:decide (d<0)=false:=decide_eq_false hd
           obtain ⟨q1,q2⟩:=HP.out.put (show 0≤d by omega) hbd.2
           have HQ:Hid (∃o2 h2,DgP (ds++[d]) o2 h2∧V=hexV o2 h2 (bs.drop (j+1))):=by
             by_cases hh:half<0
             · rw [if_pos hh] at hg;exact Lib.hid ⟨_,_,q1 hh,hg⟩
             · rw [if_neg hh] at hg;exact Lib.hid ⟨_,_,q2 (by omega),hg⟩
           obtain ⟨va,vcap,hv,-⟩:=HD.out.len
           subst hv
           clear hg q1 q2 hd
           go_wp2_with (first
             | (go_at_call 112;refine (HSP.out _).mono ?_;rintro e w' ⟨rfl,rfl⟩)
             | (go_at_call 113;refine (HHX.out _).mono ?_;rintro e w' ⟨rfl,rfl⟩)
             | (at_builtin;refine zay EInt rfl (.tmp 60) (.tmp 63) rfl w.heap.size _ ds.length _ rfl (HD.out.row.alloc _) _ 1 _ _ rfl (zbo _ _ _) (zbH rfl) (by unfold maxLen;omega) (by omega) (by rw [zas];omega) ?_;intro v' w5 hO5 hg5 hnil5;have HD5:=Lib.hid (HD.out.put d _ hO5 hg5);clear hO5 hg5 hnil5))
           go_roundw
           case rel =>
             obtain ⟨o2,h2,q1,q2⟩:=HQ.out
             exact ⟨j+1,ds++[d],o2,h2,by omega,by go_num,by simp;omega,HD5,Lib.hid q1,Lib.hid q2⟩
           case measure=>simp [intOf];omega
       · rw [if_pos rfl] at hg
         have HG2:=Lib.hid hg
         clear hg
         go_wp2_with (go_at_call 112;refine (HSP.out _).mono ?_;rintro e w' ⟨rfl,rfl⟩)
         go_roundw
         case rel=>exact ⟨j+1,ds,o,half,by omega,by go_num,by omega,HD,HP,HG2⟩
         case measure=>simp [intOf];omega
   · obtain rfl : j = bs.length := by omega
     have hg:=HG.out
     rw [List.drop_length,hexV] at hg
     have HG2:=Lib.hid hg
     have hji:decide ((bs.length:Int)<bs.length)=false:=decide_eq_false (by omega)
     clear hg
     go_wp2_with (go_at_call 114;refine (zgw _ _).mono ?_;rintro e w' ⟨rfl,rfl⟩)
     go_ret3
     exact hexR_open HG2.out HD.out.bel
theorem zdC {w:World} {a:Option Addr} {cap:Nat} {bs:List UInt8} (hr:Row w 1 a bs.length cap (bs.map u8C)) (hn:bs.length≤400000) (k:Nat) (hk:k≤bs.length) :
   Calls Tryz.prog 69 #[.slice a bs.length cap,.int .i64 k] w fun e w'=>e=.returned (.int .i64 ((k+runN (bs.drop k):Nat):Int))∧w=w':=by
 obtain ⟨R,hR⟩:∃R,R=k+runN (bs.drop k):=⟨_,rfl⟩
 rw [←hR]
 have HR:=Lib.hid hR
 have HC:=Lib.hid (fun j (hj:j<bs.length)=>hr.at 0 j hj)
 have HK:=Lib.hid hk
 clear hR hr hk
 go_enter Tryz.func69,Tryz.ntmps69
 go_wp2
 go_loop [1] (fun i=>∃j:Nat,j≤bs.length∧i=.int .i64 j∧Hid (R=j+runN (bs.drop j))) (fun i=>bs.length-(intOf i).toNat)
 case atStart=>exact ⟨k,HK.out,rfl,HR⟩
 case round =>
   obtain ⟨j,hj,rfl,HJ⟩:=hrel
   by_cases hlt:j<bs.length
   · obtain ⟨b,off,ha,-,hc⟩:=HC.out j hlt
     unfold u8C at hc
     have hcj:=hc j hlt
     have hg:=HJ.out
     rw [zaw hlt] at hg
     have hji:decide ((j:Int)<bs.length)=true:=decide_eq_true (by omega)
     have hjn:decide (j<bs.length)=true:=decide_eq_true hlt
     have hjl:(j:Int)<bs.length:=by omega
     have HM:=Lib.hid (show bs.length-(j+1)<bs.length-j by omega)
     have HJL:=Lib.hid (show j+1≤bs.length from hlt)
     subst ha
     generalize bs.getD j 0=c at *
     have HSP:=Lib.hid (fun W=>zd2 c.toNat W)
     have HDL:=Lib.hid (fun W=>zaL c.toNat W)
     rw [←zfG] at HSP
     rw [←zbW] at HDL
     have hreg:isRg c=(!isSp c&&!isDl c):=rfl
     generalize c.toNat=x at *
     generalize isSp c=sp at *
     generalize isDl c=dl at *
     clear hc HC
     cases sp
     · cases dl
       · have HG := Lib.hid (show R = (j + 1) + runN (bs.drop (j + 1)) by rw [hg, zeA _ hreg]; omega)
         clear hg hreg hlt
         go_wp2_with (first
           | (go_at_call 112;refine (HSP.out _).mono ?_;rintro e w' ⟨rfl,rfl⟩)
           | (go_at_call 73;refine (HDL.out _).mono ?_;rintro e w' ⟨rfl,rfl⟩))
         go_round
         case rel=>exact ⟨j+1,HJL.out,by go_num,HG⟩
         case measure=>have:=HM.out;simp only [intOf];omega
       · have HG := Lib.hid (show R = j by rw [hg, runN_no _ hreg]; omega)
         clear hg hreg hlt
         go_wp2_with (first
           | (go_at_call 112;refine (HSP.out _).mono ?_;rintro e w' ⟨rfl,rfl⟩)
           | (go_at_call 73;refine (HDL.out _).mono ?_;rintro e w' ⟨rfl,rfl⟩))
         go_ret
         exact ⟨by rw [HG.out];rfl,rfl⟩
     · have HG := Lib.hid (show R = j by rw [hg, runN_no _ hreg]; omega)
       clear hg hreg hlt
       go_wp2_with (first
         | (go_at_call 112;refine (HSP.out _).mono ?_;rintro e w' ⟨rfl,rfl⟩)
         | (go_at_call 73;refine (HDL.out _).mono ?_;rintro e w' ⟨rfl,rfl⟩))
       go_ret
       exact ⟨by rw [HG.out];rfl,rfl⟩
   · obtain rfl : j = bs.length := by omega
     have hg:=HJ.out
     rw [List.drop_length] at hg
     have HG:=Lib.hid (show R=bs.length from hg)
     clear hg
     go_wp2
     go_ret
     exact ⟨by rw [HG.out];rfl,rfl⟩
theorem zeR {w:World} {a:Option Addr} {cap:Nat} {bs:List UInt8} (hr:Row w 1 a bs.length cap (bs.map u8C)) (hn:bs.length≤400000) :
   Calls Tryz.prog 72 #[.slice a bs.length cap] w (zde w (zdc bs)):=by
 obtain ⟨V,hV⟩:∃V,V=zdc bs:=⟨_,rfl⟩
 rw [←hV]
 rw [nameV_fin] at hV
 have HV:=Lib.hid hV
 obtain ⟨r,hrr⟩:∃r,r=w.heap.size:=⟨_,rfl⟩
 have HBX:=Lib.hid (show (w.alloc (.cells #[.int .i64 0,.int .i64 0,.string ⟨#[]⟩,.slice none 0 0] 48)).heap[r]?=some (.cells #[.int .i64 0,.int .i64 0,.string ⟨#[]⟩,.slice none 0 0] 48 (0,0)) from zac _ hrr)
 have HB0:=Lib.hid (zam w (.cells #[.int .i64 0,.int .i64 0,.string ⟨#[]⟩,.slice none 0 0] 48))
 have HRR:=Lib.hid hrr
 have HC:=Lib.hid (fun (W:World) (h:Below w.heap.size w W) j (hj:j<bs.length)=>(hr.mono h).at 0 j hj)
 have HCB:=Lib.hid (fun j (hj:j<bs.length)=>hr.at 0 j hj)
 clear hV hrr hr
 go_enter Tryz.func72,Tryz.ntmps72
 go_wp2
 rw [←HRR.out]
 generalize w.alloc (.cells #[.int .i64 0,.int .i64 0,.string ⟨#[]⟩,.slice none 0 0] 48)=W0 at *
 have hr0:=(Array.getElem?_eq_some_iff.1 HBX.out).1
 go_loopw [4,5] (fun v i wr=>∃(k:Nat) (o:List UInt8),k≤bs.length∧i=.int .i64 k∧o.length≤k∧Hid (wr.ownsRow W0.heap.size 5 1 v o.length (o.map u8C))∧Hid (Below W0.heap.size W0 wr)∧Hid (V=finN (zbA o (bs.drop k)))) (fun _ i _=>bs.length-(intOf i).toNat)
 case atStart=>exact ⟨0,[],by omega,by go_num,by simp,Lib.hid (World.ownsRow_nil _ _ _ _),Lib.hid (Below.refl _ _),HV⟩
 case round =>
   obtain ⟨k,o,hk,rfl,hok,HO,HB,HG⟩:=hrel
   have HBR:=Lib.hid (zab HB.out HBX.out)
   have HBW:=Lib.hid (HB0.out.trans (HB.out.mono HB0.out.size))
   have hsz:=HB.out.size
   by_cases hlt:k<bs.length
   · have hg:=HG.out
     rw [zaw hlt] at hg
     obtain ⟨b,off,ha,-,hc⟩:=HC.out wr HBW.out k hlt
     have hbW:b<w.heap.size:=by
       obtain ⟨b',off',ha',hb',-⟩:=HCB.out k hlt
       rw [ha] at ha';cases ha';exact hb'
     unfold u8C at hc
     have hcj:=hc k hlt
     have hki:decide ((k:Int)<bs.length)=true:=decide_eq_true (by omega)
     have hkn:decide (k<bs.length)=true:=decide_eq_true hlt
     have hkl:(k:Int)<bs.length:=by omega
     subst ha
     obtain ⟨c,hcc⟩:∃c,bs.getD k 0=c:=⟨_,rfl⟩
     rw [hcc] at hcj hg
     clear hcc
     by_cases h35:c=35
     · subst h35
       rw [show ((35:UInt8).toNat:Int)=35 from rfl] at hcj
       by_cases h2:bs.length≤k+2
       · have HNONE := Lib.hid (show V = none by rw [hg, zej _ _ (by rw [List.length_drop]; omega)]; rfl)
         have h2d:decide ((bs.length:Int)≤(k:Int)+2)=true:=decide_eq_true (by omega)
         clear hg hc
         obtain ⟨⟨k0,k1,k2,k3⟩,f0,f1,f2,f3⟩:=zae HBR.out
         go_wp2
         refine bodyPost_ret (zaa rfl _ _ r 48 _ (0,0) _ rfl (set4 HBR.out _ _ _ _) Tryz.underlying48 rfl zal _ rfl) rfl ?_
         exact zbz HNONE.out (zad HBW.out (by have:=HRR.out;omega) _ _ _ _)
       · have h2d : decide ((bs.length : Int) ≤ (k : Int) + 2) = false := decide_eq_false (by omega)
         have h1':k+1<bs.length:=by omega
         have h2':k+1+1<bs.length:=by omega
         rw [zaw h1',zaw h2',zfS] at hg
         have c1:=hc (k+1) h1'
         have c2:=hc (k+2) h2'
         have l1:(k:Int)+1<bs.length:=by omega
         have l2:(k:Int)+2<bs.length:=by omega
         have hA:=zfZ (bs.getD (k+1) 0)
         have hB:=zfZ (bs.getD (k+1+1) 0)
         have HHA:=Lib.hid (fun W=>zgr (bs.getD (k+1) 0) W)
         have HHB:=Lib.hid (fun W=>zgr (bs.getD (k+1+1) 0) W)
         rw [show k+2=k+1+1 from rfl] at c2
         generalize hexD (bs.getD (k+1) 0)=A at *
         generalize hexD (bs.getD (k+1+1) 0)=B at *
         generalize (bs.getD (k+1) 0).toNat=x at *
         generalize (bs.getD (k+1+1) 0).toNat=y at *
         rw [show k+1+1=k+2 from rfl] at c2
         clear hc
         by_cases hAn:A<0
         · have HNONE := Lib.hid (show V = none by rw [hg, if_pos (.inl hAn)]; rfl)
           have hAd:decide (A<0)=true:=decide_eq_true hAn
           clear hg
           obtain ⟨⟨k0,k1,k2,k3⟩,f0,f1,f2,f3⟩:=zae HBR.out
           go_wp2_with fail
           refine (HHA.out _).mono ?_
           rintro e w9 ⟨rfl,rfl⟩
           go_wp2
           refine bodyPost_ret (zaa rfl _ _ r 48 _ (0,0) _ rfl (set4 HBR.out _ _ _ _) Tryz.underlying48 rfl zal _ rfl) rfl ?_
           exact zbz HNONE.out (zad HBW.out (by have:=HRR.out;omega) _ _ _ _)
         · have hAd:decide (A<0)=false:=decide_eq_false hAn
           by_cases hBn:B<0
           · have HNONE := Lib.hid (show V = none by rw [hg, if_pos (.inr hBn)]; rfl)
             have hBd:decide (B<0)=true:=decide_eq_true hBn
             clear hg hAn
             obtain ⟨⟨k0,k1,k2,k3⟩,f0,f1,f2,f3⟩:=zae HBR.out
             go_wp2_with fail
             refine (HHA.out _).mono ?_
             rintro e w9 ⟨rfl,rfl⟩
             go_wp2_with fail
             refine (HHB.out _).mono ?_
             rintro e w9 ⟨rfl,rfl⟩
             go_wp2
             refine bodyPost_ret (zaa rfl _ _ r 48 _ (0,0) _ rfl (set4 HBR.out _ _ _ _) Tryz.underlying48 rfl zal _ rfl) rfl ?_
             exact zbz HNONE.out (zad HBW.out (by have:=HRR.out;omega) _ _ _ _)
           · have hBd:decide (B<0)=false:=decide_eq_false hBn
             rw [if_neg (by rintro (h|h)<;>contradiction)] at hg
             have HG2:=Lib.hid hg
             have HBY:=Lib.hid (zex (16 * A+B) (by omega) (by omega))
             have hA0:0≤A:=by omega
             have hB0:0≤B:=by omega
             obtain ⟨hA1,hA2⟩:=hA
             obtain ⟨hB1,hB2⟩:=hB
             have ak:u4.ownBlock≠some b:=fun e=>by have h1:=(HO.out.lt b e).1;have:=HB0.out.size;omega
             have hb1w:b<wr.heap.size:=by have:=HBW.out.size;omega
             have HKK:=Lib.hid (show k+3≤bs.length∧bs.length-(k+3)<bs.length-k by omega)
             have i1:IntKind.i64.wrap ((k:Int)+1)=(k:Int)+1:=IntWalk.i64_in _ (by omega)
             have i2:IntKind.i64.wrap ((k:Int)+2)=(k:Int)+2:=IntWalk.i64_in _ (by omega)
             have i3:IntKind.i64.wrap (16 * A)=16 * A:=IntWalk.i64_in _ (by omega)
             have i4:IntKind.i64.wrap (16 * A+B)=16 * A+B:=IntWalk.i64_in _ (by omega)
             have i5:IntKind.u8.wrap (16 * A+B)=16 * A+B:=by rw [IntKind.wrap_u8];omega
             have i6:((k:Int)+1).toNat=k+1:=by omega
             have i7:((k:Int)+2).toNat=k+2:=by omega
             have i8:(0:Int)≤(k:Int)+1:=by omega
             have i9:(0:Int)≤(k:Int)+2:=by omega
             clear hg hAn hBn
             go_wp2_with fail
             refine (HHA.out _).mono ?_
             rintro e w9 ⟨rfl,rfl⟩
             go_wp2_with fail
             refine (HHB.out _).mono ?_
             rintro e w9 ⟨rfl,rfl⟩
             go_wp2
             go_region_held3 (fun w' => w'.cell? ⟨b, off + (k + 1), none⟩ = some (.int .u8 x) ∧ w'.cell? ⟨b, off + (k + 2), none⟩ = some (.int .u8 y))
               (first
                 | go_keep
                 | (go_split_ands
                    refine ⟨?_,?_⟩
                    · (rw [hgrow.cell_far _ (by simp;omega) (Ne.symm ak)];assumption)
                    · (rw [hgrow.cell_far _ (by simp;omega) (Ne.symm ak)];assumption)))
               (first
                 | (go_at_call 113;with_reducible refine (HHA.out _).mono ?_;rintro e w9 ⟨rfl,rfl⟩)
                 | (go_at_call 113;with_reducible refine (HHB.out _).mono ?_;rintro e w9 ⟨rfl,rfl⟩)
                 | (obtain ⟨iB,hiB,hzB,hsB,hbB⟩:=info_parts zcR.info;refine step_append_lies _ (by rfl) _ _ _ (by rfl) W0.heap.size 5 iB _ 1 1 zcR.und hiB hzB hsB hbB rfl (by omega) u4 o.length _ (by rfl) ((HO.out.alloc _).drew) ⟨wr.heap.size,0,none⟩ 1 1 [.int .u8 (16 * A+B)] (by rfl) (by rfl) (World.news_of_block (cs:=#[.int .u8 (16 * A+B)]) (t:=5) (fr:=(0,0)) (heap_alloc_new wr _)) (by simp [Value.oneCell']) (by omega) (by unfold maxLen;omega) (by omega) (by simp;omega) (wr.heap.size+1) (by simp) ?_;intro g cap7 w7 hO7 hgrow hat hlt))
             have HP7:=Lib.hid (show w7.ownsRow W0.heap.size 5 1 (.slice (some ⟨g,0,none⟩) (o.length+1) cap7) (o++[UInt8.ofNat (16 * A+B).toNat]).length ((o++[UInt8.ofNat (16 * A+B).toNat]).map u8C)∧Below W0.heap.size W0 w7 from
               zb9 (UInt8.ofNat (16 * A+B).toNat) (.cells #[.int .u8 (16 * A+B)] 5) (zag HB.out 1) hsz (zbr HO.out (zag (Below.refl _ _) 1)) (show Value.int .u8 (16 * A+B)=u8C (UInt8.ofNat (16 * A+B).toNat) from congrArg (Value.int .u8) HBY.out) hO7 hgrow)
             clear hgrow hO7 hat hlt ak i1 i2 i3 i4 i5 i6 i7 i8 i9
             go_wp2
             go_roundw
             case rel=>exact ⟨k+3,o++[UInt8.ofNat (16 * A+B).toNat],HKK.out.1,by go_num,by simp;omega,Lib.hid HP7.out.1,Lib.hid HP7.out.2,Lib.hid HG2.out⟩
             case measure=>have:=HKK.out.2;simp only [intOf];omega
     · rw [zfa _ _ _ h35] at hg
       have HG2:=Lib.hid hg
       have e35:=zat h35 35 rfl
       have e36:((c.toNat:Int) != 35)=true:=by simp only [bne,e35,Bool.not_false]
       clear hg h35 hc
       obtain ⟨x,hx⟩:∃x,c.toNat=x:=⟨_,rfl⟩
       rw [hx] at hcj e35 e36
       have HX:=Lib.hid (show Value.int .u8 (x:Int)=u8C c by rw [←hx];rfl)
       clear hx
       go_wp2_with (at_builtin;refine zay zcR rfl (.tmp 18) (.tmp 23) rfl W0.heap.size _ o.length _ rfl (HO.out.alloc _) _ 1 _ _ rfl (zbo _ _ _) (zbH rfl) (by unfold maxLen;omega) (by omega) (by rw [zas];omega) ?_;intro v' w5 hO5 hg5 hnil5;have HP5:=Lib.hid (zb9 c _ HB.out hsz HO.out HX.out hO5 hg5);clear hO5 hg5 hnil5)
       go_roundw
       case rel=>exact ⟨k+1,o++[c],by omega,by go_num,by simp;omega,Lib.hid HP5.out.1,Lib.hid HP5.out.2,HG2⟩
       case measure=>simp [intOf];omega
   · obtain rfl : k = bs.length := by omega
     have hg:=HG.out
     rw [List.drop_length] at hg
     have hg2:V=if 127<o.length∨(0:UInt8)∈o then none else some o:=hg
     have HG2:=Lib.hid hg2
     have HCV:=Lib.hid (zdR HO.out)
     obtain ⟨a1,cap1,hv1,hrow,-⟩:=Row.of_owns HO.out
     have HROW:=Lib.hid hrow
     have hol:o.length≤400000:=by omega
     have hki:decide ((bs.length:Int)<bs.length)=false:=decide_eq_false (by omega)
     subst hv1
     clear hg hg2 hrow
     go_wp2
     go_loop [6] (fun i=>∃m:Nat,m≤o.length∧i=.int .i64 m∧Hid (∀j,j<m→o.getD j 0≠0)) (fun i=>o.length-(intOf i).toNat)
     case atStart=>exact ⟨0,by omega,by go_num,Lib.hid (fun j hj=>by omega)⟩
     case round =>
       obtain ⟨m,hm,rfl,HZ⟩:=hrel
       by_cases hmo:m<o.length
       · obtain ⟨b1,off1,he,-,hce⟩:=HROW.out.at 0 m hmo
         have cm:=hce m hmo
         unfold u8C at cm
         subst he
         have hmn:decide (m<o.length)=true:=decide_eq_true hmo
         have hmi:(m:Int)<o.length:=by omega
         clear hce
         by_cases hz:o.getD m 0=0
         · have hmem:(0:UInt8)∈o:=by
             rw [←hz,List.getD_eq_getElem?_getD,List.getElem?_eq_getElem hmo];exact List.getElem_mem _
           have HNONE:=Lib.hid (show V=none by rw [HG2.out,if_pos (.inr hmem)])
           clear hmem
           rw [hz,show ((0:UInt8).toNat:Int)=0 from rfl] at cm
           clear hz
           obtain ⟨⟨k0,k1,k2,k3⟩,f0,f1,f2,f3⟩:=zae HBR.out
           go_wp2
           refine bodyPost_ret (zaa rfl _ _ r 48 _ (0,0) _ rfl (set4 HBR.out _ _ _ _) Tryz.underlying48 rfl zal _ rfl) rfl ?_
           exact zbz HNONE.out (zad HBW.out (by have:=HRR.out;omega) _ _ _ _)
         · have e0:=zat hz 0 rfl
           have HZ2 := Lib.hid (show ∀ j, j < m + 1 → o.getD j 0 ≠ 0 from fun j hj => by
             by_cases e:j=m
             · subst e;exact hz
             · exact HZ.out j (by omega))
           generalize (o.getD m 0).toNat=x at *
           clear hz
           go_wp2
           go_round
           case rel=>exact ⟨m+1,hmo,by go_num,HZ2⟩
           case measure=>simp [intOf];omega
       · obtain rfl : m = o.length := by omega
         have hn0 : ¬ (0 : UInt8) ∈ o := fun hm => by
           obtain ⟨j,hj,hje⟩:=List.getElem_of_mem hm
           refine HZ.out j hj ?_
           rw [List.getD_eq_getElem?_getD,List.getElem?_eq_getElem hj];exact hje
         by_cases h127:127<o.length
         · have HNONE := Lib.hid (show V = none by rw [HG2.out, if_pos (.inl h127)])
           have h127d:decide ((127:Int)<o.length)=true:=decide_eq_true (by omega)
           have h127e:decide (127<o.length)=true:=decide_eq_true h127
           clear hn0
           obtain ⟨⟨k0,k1,k2,k3⟩,f0,f1,f2,f3⟩:=zae HBR.out
           go_wp2
           refine bodyPost_ret (zaa rfl _ _ r 48 _ (0,0) _ rfl (set4 HBR.out _ _ _ _) Tryz.underlying48 rfl zal _ rfl) rfl ?_
           exact zbz HNONE.out (zad HBW.out (by have:=HRR.out;omega) _ _ _ _)
         · have HS := Lib.hid (show V = some o by rw [HG2.out, if_neg (by rintro (h | h) <;> contradiction)])
           have h127d:decide ((127:Int)<o.length)=false:=decide_eq_false (by omega)
           have h127e:decide (127<o.length)=false:=decide_eq_false h127
           clear hn0 h127
           have hcv:=HCV.out
           obtain ⟨⟨k0,k1,k2,k3⟩,f0,f1,f2,f3⟩:=zae HBR.out
           go_wp2
           refine bodyPost_ret (zaa rfl _ _ r 48 _ (0,0) _ rfl (set4 HBR.out _ _ _ _) Tryz.underlying48 rfl zal _ rfl) rfl ?_
           exact name_some HS.out (zad HBW.out (by have:=HRR.out;omega) _ _ _ _)
theorem zaq:(Tryz.prog.info? 91).map (·.size)=some 8:=by kernel_rfl
structure PA (p:List UInt8) (N:Int) (ov:Bool):Prop where
 dg:p.all isDg=true
 ov_:ov=decide (2147483647<valD p)
 n:ov=false→N=(valD p:Nat)
def PB (p:List UInt8) (i:Nat) (N P:Int) (ov:Bool):Prop:=∃w r,p=w++46::r∧w.length=i∧PA w N ov∧r.all isDg=true∧P=(mil r:Nat)
theorem PA.nil:PA [] 0 false:=⟨rfl,rfl,fun _=>rfl⟩
theorem PA.over {p:List UInt8} {N:Int} (h:PA p N true) {c:UInt8} (hc:isDg c=true):PA (p++[c]) N true :=
 ⟨zc8 _ _ h.dg hc,by have:=h.ov_;rw [eq_comm,decide_eq_true_iff] at this;rw [eq_comm,decide_eq_true_iff,zbU];omega,fun h=>by cases h⟩
theorem PA.more {p:List UInt8} {N:Int} (h:PA p N false) {c:UInt8} (hc:isDg c=true) (M:Int) (hM:M=10 * N+(dgV c:Nat)) (o:Bool) (ho:o=decide (2147483647<M)):PA (p++[c]) M o:=by
 have h1:=h.n rfl
 have hv:M=(valD (p++[c]):Nat):=by rw [zbU,hM,h1];omega
 refine ⟨zc8 _ _ h.dg hc,?_,fun _=>hv⟩
 rw [ho,Bool.eq_iff_iff,decide_eq_true_iff,decide_eq_true_iff];omega
theorem PA.point {p:List UInt8} {N:Int} {ov:Bool} (h:PA p N ov):PB (p++[46]) p.length N 0 ov:=⟨p,[],rfl,rfl,h,rfl,rfl⟩
theorem mil_by (r:List UInt8) (c:UInt8) (b:Nat) (hb:b=100000 / 10 ^ (min (r.length+1) 7-1)):mil (r++[c])=mil r+b * dgV c:=by
 by_cases h:r.length<6
 · rw [mil_snoc_lt r c h, hb, Nat.min_eq_left (by omega)]
   congr 2
   have:r.length=0∨r.length=1∨r.length=2∨r.length=3∨r.length=4∨r.length=5:=by omega
   rcases this with h|h|h|h|h|h<;>rw [h]
 · rw [mil_snoc_ge r c (by omega), hb, Nat.min_eq_right (by omega)]
   simp
theorem PB.more {p:List UInt8} {i:Nat} {N P:Int} {ov:Bool} (h:PB p i N P ov) {c:UInt8} (hc:isDg c=true) (b:Nat) (hb:b=100000 / 10 ^ (min (p.length-i) 7-1)) (Q:Int) (hQ:Q=P+(b:Int) * ((c.toNat:Int)-48)):PB (p++[c]) i N Q ov:=by
 obtain ⟨w,r,e,hl,hA,hr,hP⟩:=h
 have hlen:=congrArg List.length e
 simp only [List.length_append,List.length_cons] at hlen
 refine ⟨w,r++[c],by rw [e];simp,hl,hA,zc8 _ _ hr hc,?_⟩
 rw [mil_by r c b (by rw [hb];congr 3;omega),hQ,hP,←zdh hc]
 push_cast
 rfl
theorem PB.bad {p:List UInt8} {i:Nat} {N P:Int} {ov:Bool} (h:PB p i N P ov) (sg:Int) (c:UInt8) (t:List UInt8) (hc:isDg c=false):za8 sg (p++c::t)=(0,0,11):=by
 obtain ⟨w,r,e,hl,hA,hr,hP⟩:=h
 rw [e]
 have:w++46::r++c::t=w++46::(r++c::t):=by simp
 rw [this]
 exact parseB_bad2 sg w r t c hA.dg hc
theorem PB.bd {p:List UInt8} {i:Nat} {N P:Int} {ov:Bool} (h:PB p i N P ov):0≤P∧P≤999999:=by
 obtain ⟨w,r,e,hl,hA,hr,rfl⟩:=h
 have:=zfC r hr
 omega
theorem PA.fin {p:List UInt8} {N:Int} {ov:Bool} (h:PA p N ov) (sg:Int):za8 sg p=if p.length=0 then (0,0,11) else if ov=true then (0,0,5) else (2,sg * N,0):=by
 rw [zfz sg p h.dg]
 by_cases h0:p.length=0
 · rw [if_pos h0,if_pos h0]
 · rw [if_neg h0,if_neg h0]
   have h1:=h.ov_
   cases ov
   · rw [eq_comm,decide_eq_false_iff_not] at h1
     rw [if_neg h1,if_neg (by decide),h.n rfl]
   · rw [eq_comm,decide_eq_true_iff] at h1
     rw [if_pos h1,if_pos rfl]
theorem PB.fin {p:List UInt8} {i:Nat} {N P:Int} {ov:Bool} (h:PB p i N P ov) (sg:Int):za8 sg p=if p.length=1 then (0,0,11) else if ov=true∨(N=2147483647∧0<P) then (0,0,5) else (3,sg * (1000000 * N+P),0):=by
 obtain ⟨w,r,e,hl,hA,hr,rfl⟩:=h
 have hlen:=congrArg List.length e
 simp only [List.length_append,List.length_cons] at hlen
 rw [e,parseB_real sg w r hA.dg hr,←e]
 by_cases h0:p.length=1
 · rw [if_pos h0,if_pos (by omega)]
 · rw [if_neg h0, if_neg (by omega)]
   have h1:=hA.ov_
   cases ov
   · rw [eq_comm,decide_eq_false_iff_not] at h1
     have h2:=hA.n rfl
     by_cases h3:N=2147483647∧0<((mil r:Nat):Int)
     · rw [if_pos (.inr (by omega)),if_pos (.inr h3)]
     · rw [if_neg (by rintro (h | h); exact h1 h; exact h3 (by omega)), if_neg (by rintro (h | h); cases h; exact h3 h), h2]
       rw [Int.natCast_add,Int.natCast_mul,Int.mul_comm 1000000];rfl
   · rw [eq_comm,decide_eq_true_iff] at h1
     rw [if_pos (.inl h1),if_pos (.inl rfl)]
def St (b:List UInt8) (a K:Nat) (N P D T:Int) (ov:Bool):Prop :=
 (T=-1∧P=0∧D=(K:Int)-(a:Int)∧PA (b.take (K-a)) N ov)∨(∃i:Nat,T=(a:Int)+(i:Int)∧i<K-a∧D=(K:Int)-(a:Int)-1∧PB (b.take (K-a)) i N P ov)
theorem at_take (s:ByteArray) (a k:Nat) (h:k<s.size) (ha:a≤k):((bl s).drop a).take (k+1-a)=((bl s).drop a).take (k-a)++[s[k]]:=by
 rw [show k+1-a=(k-a)+1 from by omega,List.take_succ_eq_append_getElem (by rw [List.length_drop,zaz];omega),List.getElem_drop]
 congr 2
 rw [←bl_get s k h]
 congr 1
 omega
theorem zgo (s:ByteArray) (a k:Nat) (h:k<s.size) (ha:a≤k):(bl s).drop a=((bl s).drop a).take (k-a)++s[k]::(bl s).drop (k+1):=by
 have h1:=List.take_append_drop (k-a) ((bl s).drop a)
 rw [List.drop_drop,show a+(k-a)=k from by omega,zed s k h] at h1
 exact h1.symm
set_option maxHeartbeats 16000000 in
theorem rparse_none (s:ByteArray) (w:World) (hs:s.size≤400000) (h0:0<s.size) (hn43:PlainAid.bt s 0≠43) (hn45:PlainAid.bt s 0≠45) :
   Calls Tryz.prog 74 #[.string s] w (zbq (zaH (bl s)) w):=by
 have hbx:(w.alloc (.cells #[.int .i64 0,.int .i64 0,.string ⟨#[]⟩,.slice none 0 0] 48)).heap[w.heap.size]?=some (.cells #[.int .i64 0,.int .i64 0,.string ⟨#[]⟩,.slice none 0 0] 48 (0,0)):=zac _ rfl
 have hB0:=zam w (.cells #[.int .i64 0,.int .i64 0,.string ⟨#[]⟩,.slice none 0 0] 48)
 have HBX:=Lib.hid hbx
 have HB0:=Lib.hid hB0
 obtain ⟨V,hV⟩:∃V,V=zaH (bl s):=⟨_,rfl⟩
 rw [←hV]
 have HV:=Lib.hid hV
 clear hV hbx hB0
 · have hgb:=PlainAid.get_bt s
   have hx:(s[0].toNat:Int)=PlainAid.bt s 0:=hgb 0 h0
   have h43:(PlainAid.bt s 0==43)=false:=by rw [beq_eq_false_iff_ne];exact hn43
   have h45:(PlainAid.bt s 0==45)=false:=by rw [beq_eq_false_iff_ne];exact hn45
   have HS:=Lib.hid (show V=za8 1 ((bl s).drop 0) by
     have hb:=zed s 0 h0
     have a1:s[0]≠45:=fun e=>hn45 (by rw [←hx,e];rfl)
     have a2:s[0]≠43:=fun e=>hn43 (by rw [←hx,e];rfl)
     rw [List.drop_zero] at hb
     rw [HV.out,zaH,List.drop_zero]
     unfold zcz zcF
     rw [hb,List.head?_cons,if_neg (by simpa using a1),if_neg (by simp;exact ⟨a1,a2⟩)])
   clear hx hn43 hn45
   go_enter Tryz.func74,Tryz.ntmps74
   go_wp2
   generalize w.alloc (.cells #[.int .i64 0,.int .i64 0,.string ⟨#[]⟩,.slice none 0 0] 48)=W at *
   go_loop [5, 6, 7, 8, 9, 10] (fun n p d t o i => ∃ (K : Nat) (N P D T : Int) (ov : Bool), 0 ≤ K ∧ K ≤ s.size ∧ n = .int .i64 N ∧ p = .int .i64 P ∧ d = .int .i64 D ∧ t = .int .i64 T ∧ o = .bool ov ∧ i = .int .i64 K ∧ 0 ≤ N ∧ N ≤ 21474836479 ∧ (ov = false → N ≤ 2147483647) ∧ 0 ≤ P ∧ P ≤ 999999 ∧ 0 ≤ D ∧ D ≤ K ∧ Hid (St ((bl s).drop 0) 0 K N P D T ov))
     (fun _ _ _ _ _ i=>s.size-(intOf i).toNat)
   case atStart=>exact ⟨0,0,0,0,-1,false,Nat.le_refl _,by omega,rfl,rfl,rfl,rfl,rfl,rfl,by omega,by omega,fun _=>by omega,by omega,by omega,by omega,by omega,Lib.hid (.inl ⟨rfl,rfl,by omega,PA.nil⟩)⟩
   case round =>
     obtain ⟨K,N,P,D,T,ov,hK0,hK1,rfl,rfl,rfl,rfl,rfl,rfl,hN0,hN1,hNo,hP0,hP1,hD0,hD1,HST⟩:=hrel
     by_cases hlt:K<s.size
     · have hgb:=PlainAid.get_bt s
       have hx:(s[K].toNat:Int)=PlainAid.bt s K:=hgb K hlt
       have HTK:=Lib.hid (at_take s 0 K hlt hK0)
       have HSP:=Lib.hid (zgo s 0 K hlt hK0)
       have hx0:=PlainAid.bt_nonneg s K
       have hx1:=PlainAid.bt_le s K
       have HX:=Lib.hid hx
       clear hx
       rcases HST.out with ⟨rfl,rfl,hD,hA⟩|⟨i,rfl,hi,hD,hB⟩
       · have HA:=Lib.hid hA
         have HD:=Lib.hid hD
         clear hA hD HST
         by_cases h46:PlainAid.bt s K=46
         · have HB:=Lib.hid (show PB (((bl s).drop 0).take (K+1-0)) (K-0) N 0 ov by
             rw [HTK.out,show s[K]=46 from UInt8.toNat_inj.1 (by have:=HX.out;rw [h46] at this;exact Int.ofNat_inj.1 this)]
             have:=HA.out.point
             rwa [show (((bl s).drop 0).take (K-0)).length=K-0 from by rw [List.length_take,List.length_drop,zaz];omega] at this)
           have h46d:(PlainAid.bt s K==46)=true:=by rw [beq_iff_eq];exact h46
           clear h46
           go_wp2
           go_round
           case rel=>exact ⟨K+1,N,0,D,K,ov,by omega,by omega,rfl,rfl,rfl,rfl,rfl,by go_num,hN0,hN1,hNo,by omega,by omega,hD0,by omega,Lib.hid (.inr ⟨K-0,by omega,by omega,by have:=HD.out;omega,HB.out⟩)⟩
           case measure=>simp [intOf];omega
         · have h46d : (PlainAid.bt s K == 46) = false := by rw [beq_eq_false_iff_ne]; exact h46
           have HNE:=Lib.hid (show s[K]≠46 from fun e=>h46 (by rw [←HX.out,e];rfl))
           clear h46
           by_cases h48:48≤PlainAid.bt s K
           · by_cases h57:PlainAid.bt s K≤57
             · have HDG := Lib.hid (show isDg s[K] = true by rw [zbc]; have := HX.out; omega)
               have HDV:=Lib.hid (show ((dgV s[K]:Nat):Int)=PlainAid.bt s K-48 by rw [zdh HDG.out,HX.out])
               have h48d:decide (48≤PlainAid.bt s K)=true:=by simpa using h48
               have h57d:decide (PlainAid.bt s K≤57)=true:=by simpa using h57
               cases ov
               · have hN2:=hNo rfl
                 by_cases hM:2147483647<10 * N+PlainAid.bt s K-48
                 · have HA2:=Lib.hid (show PA (((bl s).drop 0).take (K+1-0)) (10 * N+PlainAid.bt s K-48) true by
                     rw [HTK.out];exact HA.out.more HDG.out _ (by have:=HDV.out;omega) _ (by rw [eq_comm,decide_eq_true_iff];exact hM))
                   go_wp2
                   go_round
                   case rel=>exact ⟨K+1,10 * N+PlainAid.bt s K-48,0,D+1,-1,true,by omega,by omega,rfl,rfl,rfl,rfl,rfl,by go_num,by omega,by omega,(fun h=>by cases h),by omega,by omega,by omega,by omega,Lib.hid (.inl ⟨rfl,rfl,by have:=HD.out;omega,HA2.out⟩)⟩
                   case measure=>simp [intOf];omega
                 · have HA2:=Lib.hid (show PA (((bl s).drop 0).take (K+1-0)) (10 * N+PlainAid.bt s K-48) false by
                     rw [HTK.out];exact HA.out.more HDG.out _ (by have:=HDV.out;omega) _ (by rw [eq_comm,decide_eq_false_iff_not];exact hM))
                   have hMd:decide (2147483647<10 * N+PlainAid.bt s K-48)=false:=by simpa using hM
                   have hM2:10 * N+PlainAid.bt s K-48≤2147483647:=by omega
                   clear hM
                   go_wp2
                   go_round
                   case rel=>exact ⟨K+1,10 * N+PlainAid.bt s K-48,0,D+1,-1,false,by omega,by omega,rfl,rfl,rfl,rfl,rfl,by go_num,by omega,by omega,(fun _=>hM2),by omega,by omega,by omega,by omega,Lib.hid (.inl ⟨rfl,rfl,by have:=HD.out;omega,HA2.out⟩)⟩
                   case measure=>simp [intOf];omega
               · have HA2 := Lib.hid (show PA (((bl s).drop 0).take (K + 1 - 0)) N true by rw [HTK.out]; exact HA.out.over HDG.out)
                 go_wp2
                 go_round
                 case rel=>exact ⟨K+1,N,0,D+1,-1,true,by omega,by omega,rfl,rfl,rfl,rfl,rfl,by go_num,hN0,hN1,hNo,by omega,by omega,by omega,by omega,Lib.hid (.inl ⟨rfl,rfl,by have:=HD.out;omega,HA2.out⟩)⟩
                 case measure=>simp [intOf];omega
             · have HL:=Lib.hid (show V=(0,0,11) by
                 rw [HS.out,HSP.out];exact zbL _ _ _ _ HA.out.dg HNE.out (by rw [zbO];have:=HX.out;omega))
               have h48d:decide (48≤PlainAid.bt s K)=true:=by simpa using h48
               have h57d:decide (PlainAid.bt s K≤57)=false:=by simpa using h57
               obtain ⟨⟨k0,k1,k2,k3⟩,f0,f1,f2,f3⟩:=zae HBX.out
               go_wp2
               refine bodyPost_ret (zaa rfl _ _ w.heap.size 48 _ (0,0) _ rfl (set4 HBX.out _ _ _ _) Tryz.underlying48 rfl zal _ rfl) rfl ⟨?_,zad HB0.out (Nat.le_refl _) _ _ _ _⟩
               rw [HL.out]
               rfl
           · have HL:=Lib.hid (show V=(0,0,11) by
               rw [HS.out,HSP.out];exact zbL _ _ _ _ HA.out.dg HNE.out (by rw [zbO];have:=HX.out;omega))
             have h48d:decide (48≤PlainAid.bt s K)=false:=by simpa using h48
             obtain ⟨⟨k0,k1,k2,k3⟩,f0,f1,f2,f3⟩:=zae HBX.out
             go_wp2
             refine bodyPost_ret (zaa rfl _ _ w.heap.size 48 _ (0,0) _ rfl (set4 HBX.out _ _ _ _) Tryz.underlying48 rfl zal _ rfl) rfl ⟨?_,zad HB0.out (Nat.le_refl _) _ _ _ _⟩
             rw [HL.out]
             rfl
       · have HB:=Lib.hid hB
         have HD:=Lib.hid hD
         clear hB hD HST
         have hpt:decide ((0:Int)+(i:Int)<0)=false:=decide_eq_false (by omega)
         have hpt2:decide ((i:Int)<0)=false:=decide_eq_false (by omega)
         have hpt3:0≤(0:Int)+(i:Int):=by omega
         by_cases h48:48≤PlainAid.bt s K
         · have h48d : decide (48 ≤ PlainAid.bt s K) = true := by simpa using h48
           have h46d:(PlainAid.bt s K==46)=false:=by rw [beq_eq_false_iff_ne];omega
           by_cases h57:PlainAid.bt s K≤57
           · have h57d : decide (PlainAid.bt s K ≤ 57) = true := by simpa using h57
             have HDG:=Lib.hid (show isDg s[K]=true by rw [zbc];have:=HX.out;omega)
             go_wp2
             go_loop [11,12] (fun b j=>∃(J:Nat) (B:Int),1≤J∧J≤7∧J≤K-0-i∧b=.int .i64 B∧j=.int .i64 J∧0≤B∧B≤100000∧Hid (B=(100000 / 10 ^ (J-1):Nat))) (fun _ j=>7-(intOf j).toNat)
             case atStart=>exact ⟨1,100000,by omega,by omega,by omega,rfl,rfl,by omega,by omega,Lib.hid rfl⟩
             case round =>
               obtain ⟨J,B,hJ1,hJ7,hJL,rfl,rfl,hB0,hB1,HBJ⟩:=hrel
               by_cases hJK:(J:Int)<(K:Int)-((i:Int))
               · have hJKd : decide ((J : Int) < (K : Int) - ((i : Int))) = true := by simpa using hJK
                 by_cases hJ7b:J<7
                 · have hJ7d : decide ((J : Int) < 7) = true := by simp; omega
                   have HBN:=Lib.hid (show B / 10=((100000 / 10 ^ (J+1-1):Nat):Int) by
                     rw [HBJ.out,show J+1-1=(J-1)+1 from by omega,Nat.pow_succ,←Nat.div_div_eq_div_mul];omega)
                   go_wp2
                   go_round
                   case rel=>exact ⟨J+1,B / 10,by omega,by omega,by omega,rfl,by go_num,by omega,by omega,HBN⟩
                   case measure=>simp [intOf];omega
                 · have hJ7d : decide ((J : Int) < 7) = false := decide_eq_false (by omega)
                   have hz0:0≤B * (PlainAid.bt s K-48):=Int.mul_nonneg hB0 (by omega)
                   have hz1:B * (PlainAid.bt s K-48)≤100000 * 9:=Int.mul_le_mul hB1 (by omega) (by omega) (by omega)
                   have HQ:=Lib.hid (show PB (((bl s).drop 0).take (K+1-0)) i N (P+B * (PlainAid.bt s K-48)) ov by
                     rw [HTK.out]
                     refine HB.out.more HDG.out (100000 / 10 ^ (J-1)) ?_ _ (by rw [HBJ.out,HX.out])
                     rw [List.length_take,List.length_drop,zaz]
                     congr 3
                     omega)
                   have hq:=HQ.out.bd
                   have hq0:=hq.1
                   have hq1:=hq.2
                   clear hq
                   have hwr:IntKind.i64.wrap (B * (PlainAid.bt s K-48))=B * (PlainAid.bt s K-48):=IntWalk.i64_in _ (by omega)
                   clear hz1
                   go_wp2
                   go_round
                   case rel=>exact ⟨K+1,N,P+B * (PlainAid.bt s K-48),D+1,_,ov,by omega,by omega,rfl,rfl,rfl,by go_num,rfl,by go_num,hN0,hN1,hNo,hq0,hq1,by omega,by omega,Lib.hid (.inr ⟨i,rfl,by omega,by have:=HD.out;omega,HQ.out⟩)⟩
                   case measure=>simp [intOf];omega
               · have hJKd : decide ((J : Int) < (K : Int) - ((i : Int))) = false := by simpa using hJK
                 have hz0:0≤B * (PlainAid.bt s K-48):=Int.mul_nonneg hB0 (by omega)
                 have hz1:B * (PlainAid.bt s K-48)≤100000 * 9:=Int.mul_le_mul hB1 (by omega) (by omega) (by omega)
                 have HQ:=Lib.hid (show PB (((bl s).drop 0).take (K+1-0)) i N (P+B * (PlainAid.bt s K-48)) ov by
                   rw [HTK.out]
                   refine HB.out.more HDG.out (100000 / 10 ^ (J-1)) ?_ _ (by rw [HBJ.out,HX.out])
                   rw [List.length_take,List.length_drop,zaz]
                   congr 3
                   omega)
                 have hq:=HQ.out.bd
                 have hq0:=hq.1
                 have hq1:=hq.2
                 clear hq
                 have hwr:IntKind.i64.wrap (B * (PlainAid.bt s K-48))=B * (PlainAid.bt s K-48):=IntWalk.i64_in _ (by omega)
                 clear hz1
                 go_wp2
                 go_round
                 case rel=>exact ⟨K+1,N,P+B * (PlainAid.bt s K-48),D+1,_,ov,by omega,by omega,rfl,rfl,rfl,by go_num,rfl,by go_num,hN0,hN1,hNo,hq0,hq1,by omega,by omega,Lib.hid (.inr ⟨i,rfl,by omega,by have:=HD.out;omega,HQ.out⟩)⟩
                 case measure=>simp [intOf];omega
           · have HL:=Lib.hid (show V=(0,0,11) by
               rw [HS.out,HSP.out];exact HB.out.bad _ _ _ (by rw [zbO];have:=HX.out;omega))
             have h57d:decide (PlainAid.bt s K≤57)=false:=by simpa using h57
             obtain ⟨⟨k0,k1,k2,k3⟩,f0,f1,f2,f3⟩:=zae HBX.out
             go_wp2
             refine bodyPost_ret (zaa rfl _ _ w.heap.size 48 _ (0,0) _ rfl (set4 HBX.out _ _ _ _) Tryz.underlying48 rfl zal _ rfl) rfl ⟨?_,zad HB0.out (Nat.le_refl _) _ _ _ _⟩
             rw [HL.out]
             rfl
         · have HL:=Lib.hid (show V=(0,0,11) by
             rw [HS.out,HSP.out];exact HB.out.bad _ _ _ (by rw [zbO];have:=HX.out;omega))
           have h48d:decide (48≤PlainAid.bt s K)=false:=by simpa using h48
           obtain ⟨⟨k0,k1,k2,k3⟩,f0,f1,f2,f3⟩:=zae HBX.out
           by_cases h46:PlainAid.bt s K=46
           · have h46d : (PlainAid.bt s K == 46) = true := by rw [beq_iff_eq]; exact h46
             clear h46
             go_wp2
             refine bodyPost_ret (zaa rfl _ _ w.heap.size 48 _ (0,0) _ rfl (set4 HBX.out _ _ _ _) Tryz.underlying48 rfl zal _ rfl) rfl ⟨?_,zad HB0.out (Nat.le_refl _) _ _ _ _⟩
             rw [HL.out]
             rfl
           · have h46d : (PlainAid.bt s K == 46) = false := by rw [beq_eq_false_iff_ne]; exact h46
             clear h46
             go_wp2
             refine bodyPost_ret (zaa rfl _ _ w.heap.size 48 _ (0,0) _ rfl (set4 HBX.out _ _ _ _) Tryz.underlying48 rfl zal _ rfl) rfl ⟨?_,zad HB0.out (Nat.le_refl _) _ _ _ _⟩
             rw [HL.out]
             rfl
     · obtain rfl : K = s.size := by omega
       have HTK:=Lib.hid (show ((bl s).drop 0).take (s.size-0)=(bl s).drop 0 by rw [List.take_of_length_le (by rw [List.length_drop,zaz];omega)])
       have HLEN:=Lib.hid (show ((bl s).drop 0).length=s.size-0 by rw [List.length_drop,zaz])
       have hwlt:=(Array.getElem?_eq_some_iff.1 HBX.out).1
       obtain ⟨⟨k0,k1,k2,k3⟩,f0,f1,f2,f3⟩:=zae HBX.out
       rcases HST.out with ⟨rfl,rfl,hD,hA⟩|⟨i,rfl,hi,hD,hB⟩
       · rw [HTK.out] at hA
         have HL:=Lib.hid (show V=if s.size-0=0 then (0,0,11) else if ov=true then (0,0,5) else (2,1 * N,0) by rw [HS.out,hA.fin,HLEN.out])
         clear hA HST
         by_cases hz:s.size-0=0
         · rw [if_pos hz] at HL
           have hDz:(D==0)=true:=by rw [beq_iff_eq];omega
           clear hD hz
           go_wp2
           refine bodyPost_ret (zaa rfl _ _ w.heap.size 48 _ (0,0) _ rfl (set4 HBX.out _ _ _ _) Tryz.underlying48 rfl zal _ rfl) rfl ⟨?_,zad HB0.out (Nat.le_refl _) _ _ _ _⟩
           rw [HL.out]
           rfl
         · rw [if_neg hz] at HL
           have hDz:(D==0)=false:=by rw [beq_eq_false_iff_ne];omega
           clear hD hz
           cases ov
           · rw [if_neg (by decide)] at HL
             have hNo2:=hNo rfl
             go_wp2
             refine bodyPost_ret (zaa rfl _ _ w.heap.size 48 _ (0,0) _ rfl (zao _ (set4 HBX.out _ _ _ _)) Tryz.underlying48 rfl zal _ rfl) rfl ⟨?_,(zad HB0.out (Nat.le_refl _) _ _ _ _).alloc (by simpa using Nat.le_of_lt hwlt) _⟩
             rw [HL.out]
             simp [valC,zba]
           · rw [if_pos rfl] at HL
             go_wp2
             refine bodyPost_ret (zaa rfl _ _ w.heap.size 48 _ (0,0) _ rfl (set4 HBX.out _ _ _ _) Tryz.underlying48 rfl zal _ rfl) rfl ⟨?_,zad HB0.out (Nat.le_refl _) _ _ _ _⟩
             rw [HL.out]
             rfl
       · rw [HTK.out] at hB
         have HL:=Lib.hid (show V=if s.size-0=1 then (0,0,11) else if ov=true∨(N=2147483647∧0<P) then (0,0,5) else (3,1 * (1000000 * N+P),0) by rw [HS.out,hB.fin,HLEN.out])
         clear hB HST
         have hpt:decide (0≤(0:Int)+(i:Int))=true:=decide_eq_true (by omega)
         have hpt2:decide (0≤(i:Int))=true:=decide_eq_true (by omega)
         have hpt3:0≤(0:Int)+(i:Int):=by omega
         by_cases hz:s.size-0=1
         · rw [if_pos hz] at HL
           have hDz:(D==0)=true:=by rw [beq_iff_eq];omega
           clear hD hz hi
           go_wp2
           refine bodyPost_ret (zaa rfl _ _ w.heap.size 48 _ (0,0) _ rfl (set4 HBX.out _ _ _ _) Tryz.underlying48 rfl zal _ rfl) rfl ⟨?_,zad HB0.out (Nat.le_refl _) _ _ _ _⟩
           rw [HL.out]
           rfl
         · rw [if_neg hz] at HL
           have hDz:(D==0)=false:=by rw [beq_eq_false_iff_ne];omega
           clear hD hz hi
           cases ov
           · have hNo2:=hNo rfl
             by_cases hNm:N=2147483647
             · have hNmd : (N == 2147483647) = true := by rw [beq_iff_eq]; exact hNm
               by_cases hPp:0<P
               · have hPd : decide (0 < P) = true := by simpa using hPp
                 rw [if_pos (.inr ⟨hNm,hPp⟩)] at HL
                 clear hNm
                 go_wp2
                 refine bodyPost_ret (zaa rfl _ _ w.heap.size 48 _ (0,0) _ rfl (set4 HBX.out _ _ _ _) Tryz.underlying48 rfl zal _ rfl) rfl ⟨?_,zad HB0.out (Nat.le_refl _) _ _ _ _⟩
                 rw [HL.out]
                 rfl
               · have hPd : decide (0 < P) = false := by simpa using hPp
                 rw [if_neg (by rintro (h|h);cases h;exact hPp h.2)] at HL
                 clear hNm
                 go_wp2
                 refine bodyPost_ret (zaa rfl _ _ w.heap.size 48 _ (0,0) _ rfl (zao _ (set4 HBX.out _ _ _ _)) Tryz.underlying48 rfl zal _ rfl) rfl ⟨?_,(zad HB0.out (Nat.le_refl _) _ _ _ _).alloc (by simpa using Nat.le_of_lt hwlt) _⟩
                 rw [HL.out]
                 simp [valC,zba]
             · have hNmd : (N == 2147483647) = false := by rw [beq_eq_false_iff_ne]; exact hNm
               rw [if_neg (by rintro (h|h);cases h;exact hNm h.1)] at HL
               clear hNm
               go_wp2
               refine bodyPost_ret (zaa rfl _ _ w.heap.size 48 _ (0,0) _ rfl (zao _ (set4 HBX.out _ _ _ _)) Tryz.underlying48 rfl zal _ rfl) rfl ⟨?_,(zad HB0.out (Nat.le_refl _) _ _ _ _).alloc (by simpa using Nat.le_of_lt hwlt) _⟩
               rw [HL.out]
               simp [valC,zba]
           · rw [if_pos (.inl rfl)] at HL
             go_wp2
             refine bodyPost_ret (zaa rfl _ _ w.heap.size 48 _ (0,0) _ rfl (set4 HBX.out _ _ _ _) Tryz.underlying48 rfl zal _ rfl) rfl ⟨?_,zad HB0.out (Nat.le_refl _) _ _ _ _⟩
             rw [HL.out]
             rfl
set_option maxHeartbeats 16000000 in
theorem rparse_plus (s:ByteArray) (w:World) (hs:s.size≤400000) (h0:0<s.size) (hc:PlainAid.bt s 0=43) :
   Calls Tryz.prog 74 #[.string s] w (zbq (zaH (bl s)) w):=by
 have hbx:(w.alloc (.cells #[.int .i64 0,.int .i64 0,.string ⟨#[]⟩,.slice none 0 0] 48)).heap[w.heap.size]?=some (.cells #[.int .i64 0,.int .i64 0,.string ⟨#[]⟩,.slice none 0 0] 48 (0,0)):=zac _ rfl
 have hB0:=zam w (.cells #[.int .i64 0,.int .i64 0,.string ⟨#[]⟩,.slice none 0 0] 48)
 have HBX:=Lib.hid hbx
 have HB0:=Lib.hid hB0
 obtain ⟨V,hV⟩:∃V,V=zaH (bl s):=⟨_,rfl⟩
 rw [←hV]
 have HV:=Lib.hid hV
 clear hV hbx hB0
 · have hgb:=PlainAid.get_bt s
   have hx:(s[0].toNat:Int)=PlainAid.bt s 0:=hgb 0 h0
   have HS:=Lib.hid (show V=za8 1 ((bl s).drop 1) by
     have hb:=zed s 0 h0
     have a1:s[0]=43:=UInt8.toNat_inj.1 (Int.ofNat_inj.1 (hx.trans hc))
     rw [List.drop_zero] at hb
     rw [HV.out,zaH]
     unfold zcz zcF
     rw [hb,a1];rfl)
   clear hx
   go_enter Tryz.func74,Tryz.ntmps74
   go_wp2
   generalize w.alloc (.cells #[.int .i64 0,.int .i64 0,.string ⟨#[]⟩,.slice none 0 0] 48)=W at *
   go_loop [5, 6, 7, 8, 9, 10] (fun n p d t o i => ∃ (K : Nat) (N P D T : Int) (ov : Bool), 1 ≤ K ∧ K ≤ s.size ∧ n = .int .i64 N ∧ p = .int .i64 P ∧ d = .int .i64 D ∧ t = .int .i64 T ∧ o = .bool ov ∧ i = .int .i64 K ∧ 0 ≤ N ∧ N ≤ 21474836479 ∧ (ov = false → N ≤ 2147483647) ∧ 0 ≤ P ∧ P ≤ 999999 ∧ 0 ≤ D ∧ D ≤ K ∧ Hid (St ((bl s).drop 1) 1 K N P D T ov))
     (fun _ _ _ _ _ i=>s.size-(intOf i).toNat)
   case atStart=>exact ⟨1,0,0,0,-1,false,Nat.le_refl _,by omega,rfl,rfl,rfl,rfl,rfl,rfl,by omega,by omega,fun _=>by omega,by omega,by omega,by omega,by omega,Lib.hid (.inl ⟨rfl,rfl,by omega,PA.nil⟩)⟩
   case round =>
     obtain ⟨K,N,P,D,T,ov,hK0,hK1,rfl,rfl,rfl,rfl,rfl,rfl,hN0,hN1,hNo,hP0,hP1,hD0,hD1,HST⟩:=hrel
     by_cases hlt:K<s.size
     · have hgb:=PlainAid.get_bt s
       have hx:(s[K].toNat:Int)=PlainAid.bt s K:=hgb K hlt
       have HTK:=Lib.hid (at_take s 1 K hlt hK0)
       have HSP:=Lib.hid (zgo s 1 K hlt hK0)
       have hx0:=PlainAid.bt_nonneg s K
       have hx1:=PlainAid.bt_le s K
       have HX:=Lib.hid hx
       clear hx
       rcases HST.out with ⟨rfl,rfl,hD,hA⟩|⟨i,rfl,hi,hD,hB⟩
       · have HA:=Lib.hid hA
         have HD:=Lib.hid hD
         clear hA hD HST
         by_cases h46:PlainAid.bt s K=46
         · have HB:=Lib.hid (show PB (((bl s).drop 1).take (K+1-1)) (K-1) N 0 ov by
             rw [HTK.out,show s[K]=46 from UInt8.toNat_inj.1 (by have:=HX.out;rw [h46] at this;exact Int.ofNat_inj.1 this)]
             have:=HA.out.point
             rwa [show (((bl s).drop 1).take (K-1)).length=K-1 from by rw [List.length_take,List.length_drop,zaz];omega] at this)
           have h46d:(PlainAid.bt s K==46)=true:=by rw [beq_iff_eq];exact h46
           clear h46
           go_wp2
           go_round
           case rel=>exact ⟨K+1,N,0,D,K,ov,by omega,by omega,rfl,rfl,rfl,rfl,rfl,by go_num,hN0,hN1,hNo,by omega,by omega,hD0,by omega,Lib.hid (.inr ⟨K-1,by omega,by omega,by have:=HD.out;omega,HB.out⟩)⟩
           case measure=>simp [intOf];omega
         · have h46d : (PlainAid.bt s K == 46) = false := by rw [beq_eq_false_iff_ne]; exact h46
           have HNE:=Lib.hid (show s[K]≠46 from fun e=>h46 (by rw [←HX.out,e];rfl))
           clear h46
           by_cases h48:48≤PlainAid.bt s K
           · by_cases h57:PlainAid.bt s K≤57
             · have HDG := Lib.hid (show isDg s[K] = true by rw [zbc]; have := HX.out; omega)
               have HDV:=Lib.hid (show ((dgV s[K]:Nat):Int)=PlainAid.bt s K-48 by rw [zdh HDG.out,HX.out])
               have h48d:decide (48≤PlainAid.bt s K)=true:=by simpa using h48
               have h57d:decide (PlainAid.bt s K≤57)=true:=by simpa using h57
               cases ov
               · have hN2:=hNo rfl
                 by_cases hM:2147483647<10 * N+PlainAid.bt s K-48
                 · have HA2:=Lib.hid (show PA (((bl s).drop 1).take (K+1-1)) (10 * N+PlainAid.bt s K-48) true by
                     rw [HTK.out];exact HA.out.more HDG.out _ (by have:=HDV.out;omega) _ (by rw [eq_comm,decide_eq_true_iff];exact hM))
                   go_wp2
                   go_round
                   case rel=>exact ⟨K+1,10 * N+PlainAid.bt s K-48,0,D+1,-1,true,by omega,by omega,rfl,rfl,rfl,rfl,rfl,by go_num,by omega,by omega,(fun h=>by cases h),by omega,by omega,by omega,by omega,Lib.hid (.inl ⟨rfl,rfl,by have:=HD.out;omega,HA2.out⟩)⟩
                   case measure=>simp [intOf];omega
                 · have HA2:=Lib.hid (show PA (((bl s).drop 1).take (K+1-1)) (10 * N+PlainAid.bt s K-48) false by
                     rw [HTK.out];exact HA.out.more HDG.out _ (by have:=HDV.out;omega) _ (by rw [eq_comm,decide_eq_false_iff_not];exact hM))
                   have hMd:decide (2147483647<10 * N+PlainAid.bt s K-48)=false:=by simpa using hM
                   have hM2:10 * N+PlainAid.bt s K-48≤2147483647:=by omega
                   clear hM
                   go_wp2
                   go_round
                   case rel=>exact ⟨K+1,10 * N+PlainAid.bt s K-48,0,D+1,-1,false,by omega,by omega,rfl,rfl,rfl,rfl,rfl,by go_num,by omega,by omega,(fun _=>hM2),by omega,by omega,by omega,by omega,Lib.hid (.inl ⟨rfl,rfl,by have:=HD.out;omega,HA2.out⟩)⟩
                   case measure=>simp [intOf];omega
               · have HA2 := Lib.hid (show PA (((bl s).drop 1).take (K + 1 - 1)) N true by rw [HTK.out]; exact HA.out.over HDG.out)
                 go_wp2
                 go_round
                 case rel=>exact ⟨K+1,N,0,D+1,-1,true,by omega,by omega,rfl,rfl,rfl,rfl,rfl,by go_num,hN0,hN1,hNo,by omega,by omega,by omega,by omega,Lib.hid (.inl ⟨rfl,rfl,by have:=HD.out;omega,HA2.out⟩)⟩
                 case measure=>simp [intOf];omega
             · have HL:=Lib.hid (show V=(0,0,11) by
                 rw [HS.out,HSP.out];exact zbL _ _ _ _ HA.out.dg HNE.out (by rw [zbO];have:=HX.out;omega))
               have h48d:decide (48≤PlainAid.bt s K)=true:=by simpa using h48
               have h57d:decide (PlainAid.bt s K≤57)=false:=by simpa using h57
               obtain ⟨⟨k0,k1,k2,k3⟩,f0,f1,f2,f3⟩:=zae HBX.out
               go_wp2
               refine bodyPost_ret (zaa rfl _ _ w.heap.size 48 _ (0,0) _ rfl (set4 HBX.out _ _ _ _) Tryz.underlying48 rfl zal _ rfl) rfl ⟨?_,zad HB0.out (Nat.le_refl _) _ _ _ _⟩
               rw [HL.out]
               rfl
           · have HL:=Lib.hid (show V=(0,0,11) by
               rw [HS.out,HSP.out];exact zbL _ _ _ _ HA.out.dg HNE.out (by rw [zbO];have:=HX.out;omega))
             have h48d:decide (48≤PlainAid.bt s K)=false:=by simpa using h48
             obtain ⟨⟨k0,k1,k2,k3⟩,f0,f1,f2,f3⟩:=zae HBX.out
             go_wp2
             refine bodyPost_ret (zaa rfl _ _ w.heap.size 48 _ (0,0) _ rfl (set4 HBX.out _ _ _ _) Tryz.underlying48 rfl zal _ rfl) rfl ⟨?_,zad HB0.out (Nat.le_refl _) _ _ _ _⟩
             rw [HL.out]
             rfl
       · have HB:=Lib.hid hB
         have HD:=Lib.hid hD
         clear hB hD HST
         have hpt:decide ((1:Int)+(i:Int)<0)=false:=decide_eq_false (by omega)
         have hpt2:decide ((i:Int)<0)=false:=decide_eq_false (by omega)
         have hpt3:0≤(1:Int)+(i:Int):=by omega
         by_cases h48:48≤PlainAid.bt s K
         · have h48d : decide (48 ≤ PlainAid.bt s K) = true := by simpa using h48
           have h46d:(PlainAid.bt s K==46)=false:=by rw [beq_eq_false_iff_ne];omega
           by_cases h57:PlainAid.bt s K≤57
           · have h57d : decide (PlainAid.bt s K ≤ 57) = true := by simpa using h57
             have HDG:=Lib.hid (show isDg s[K]=true by rw [zbc];have:=HX.out;omega)
             go_wp2
             go_loop [11,12] (fun b j=>∃(J:Nat) (B:Int),1≤J∧J≤7∧J≤K-1-i∧b=.int .i64 B∧j=.int .i64 J∧0≤B∧B≤100000∧Hid (B=(100000 / 10 ^ (J-1):Nat))) (fun _ j=>7-(intOf j).toNat)
             case atStart=>exact ⟨1,100000,by omega,by omega,by omega,rfl,rfl,by omega,by omega,Lib.hid rfl⟩
             case round =>
               obtain ⟨J,B,hJ1,hJ7,hJL,rfl,rfl,hB0,hB1,HBJ⟩:=hrel
               by_cases hJK:(J:Int)<(K:Int)-(1+(i:Int))
               · have hJKd : decide ((J : Int) < (K : Int) - (1 + (i : Int))) = true := by simpa using hJK
                 by_cases hJ7b:J<7
                 · have hJ7d : decide ((J : Int) < 7) = true := by simp; omega
                   have HBN:=Lib.hid (show B / 10=((100000 / 10 ^ (J+1-1):Nat):Int) by
                     rw [HBJ.out,show J+1-1=(J-1)+1 from by omega,Nat.pow_succ,←Nat.div_div_eq_div_mul];omega)
                   go_wp2
                   go_round
                   case rel=>exact ⟨J+1,B / 10,by omega,by omega,by omega,rfl,by go_num,by omega,by omega,HBN⟩
                   case measure=>simp [intOf];omega
                 · have hJ7d : decide ((J : Int) < 7) = false := decide_eq_false (by omega)
                   have hz0:0≤B * (PlainAid.bt s K-48):=Int.mul_nonneg hB0 (by omega)
                   have hz1:B * (PlainAid.bt s K-48)≤100000 * 9:=Int.mul_le_mul hB1 (by omega) (by omega) (by omega)
                   have HQ:=Lib.hid (show PB (((bl s).drop 1).take (K+1-1)) i N (P+B * (PlainAid.bt s K-48)) ov by
                     rw [HTK.out]
                     refine HB.out.more HDG.out (100000 / 10 ^ (J-1)) ?_ _ (by rw [HBJ.out,HX.out])
                     rw [List.length_take,List.length_drop,zaz]
                     congr 3
                     omega)
                   have hq:=HQ.out.bd
                   have hq0:=hq.1
                   have hq1:=hq.2
                   clear hq
                   have hwr:IntKind.i64.wrap (B * (PlainAid.bt s K-48))=B * (PlainAid.bt s K-48):=IntWalk.i64_in _ (by omega)
                   clear hz1
                   go_wp2
                   go_round
                   case rel=>exact ⟨K+1,N,P+B * (PlainAid.bt s K-48),D+1,_,ov,by omega,by omega,rfl,rfl,rfl,rfl,rfl,by go_num,hN0,hN1,hNo,hq0,hq1,by omega,by omega,Lib.hid (.inr ⟨i,rfl,by omega,by have:=HD.out;omega,HQ.out⟩)⟩
                   case measure=>simp [intOf];omega
               · have hJKd : decide ((J : Int) < (K : Int) - (1 + (i : Int))) = false := by simpa using hJK
                 have hz0:0≤B * (PlainAid.bt s K-48):=Int.mul_nonneg hB0 (by omega)
                 have hz1:B * (PlainAid.bt s K-48)≤100000 * 9:=Int.mul_le_mul hB1 (by omega) (by omega) (by omega)
                 have HQ:=Lib.hid (show PB (((bl s).drop 1).take (K+1-1)) i N (P+B * (PlainAid.bt s K-48)) ov by
                   rw [HTK.out]
                   refine HB.out.more HDG.out (100000 / 10 ^ (J-1)) ?_ _ (by rw [HBJ.out,HX.out])
                   rw [List.length_take,List.length_drop,zaz]
                   congr 3
                   omega)
                 have hq:=HQ.out.bd
                 have hq0:=hq.1
                 have hq1:=hq.2
                 clear hq
                 have hwr:IntKind.i64.wrap (B * (PlainAid.bt s K-48))=B * (PlainAid.bt s K-48):=IntWalk.i64_in _ (by omega)
                 clear hz1
                 go_wp2
                 go_round
                 case rel=>exact ⟨K+1,N,P+B * (PlainAid.bt s K-48),D+1,_,ov,by omega,by omega,rfl,rfl,rfl,rfl,rfl,by go_num,hN0,hN1,hNo,hq0,hq1,by omega,by omega,Lib.hid (.inr ⟨i,rfl,by omega,by have:=HD.out;omega,HQ.out⟩)⟩
                 case measure=>simp [intOf];omega
           · have HL:=Lib.hid (show V=(0,0,11) by
               rw [HS.out,HSP.out];exact HB.out.bad _ _ _ (by rw [zbO];have:=HX.out;omega))
             have h57d:decide (PlainAid.bt s K≤57)=false:=by simpa using h57
             obtain ⟨⟨k0,k1,k2,k3⟩,f0,f1,f2,f3⟩:=zae HBX.out
             go_wp2
             refine bodyPost_ret (zaa rfl _ _ w.heap.size 48 _ (0,0) _ rfl (set4 HBX.out _ _ _ _) Tryz.underlying48 rfl zal _ rfl) rfl ⟨?_,zad HB0.out (Nat.le_refl _) _ _ _ _⟩
             rw [HL.out]
             rfl
         · have HL:=Lib.hid (show V=(0,0,11) by
             rw [HS.out,HSP.out];exact HB.out.bad _ _ _ (by rw [zbO];have:=HX.out;omega))
           have h48d:decide (48≤PlainAid.bt s K)=false:=by simpa using h48
           obtain ⟨⟨k0,k1,k2,k3⟩,f0,f1,f2,f3⟩:=zae HBX.out
           by_cases h46:PlainAid.bt s K=46
           · have h46d : (PlainAid.bt s K == 46) = true := by rw [beq_iff_eq]; exact h46
             clear h46
             go_wp2
             refine bodyPost_ret (zaa rfl _ _ w.heap.size 48 _ (0,0) _ rfl (set4 HBX.out _ _ _ _) Tryz.underlying48 rfl zal _ rfl) rfl ⟨?_,zad HB0.out (Nat.le_refl _) _ _ _ _⟩
             rw [HL.out]
             rfl
           · have h46d : (PlainAid.bt s K == 46) = false := by rw [beq_eq_false_iff_ne]; exact h46
             clear h46
             go_wp2
             refine bodyPost_ret (zaa rfl _ _ w.heap.size 48 _ (0,0) _ rfl (set4 HBX.out _ _ _ _) Tryz.underlying48 rfl zal _ rfl) rfl ⟨?_,zad HB0.out (Nat.le_refl _) _ _ _ _⟩
             rw [HL.out]
             rfl
     · obtain rfl : K = s.size := by omega
       have HTK:=Lib.hid (show ((bl s).drop 1).take (s.size-1)=(bl s).drop 1 by rw [List.take_of_length_le (by rw [List.length_drop,zaz];omega)])
       have HLEN:=Lib.hid (show ((bl s).drop 1).length=s.size-1 by rw [List.length_drop,zaz])
       have hwlt:=(Array.getElem?_eq_some_iff.1 HBX.out).1
       obtain ⟨⟨k0,k1,k2,k3⟩,f0,f1,f2,f3⟩:=zae HBX.out
       rcases HST.out with ⟨rfl,rfl,hD,hA⟩|⟨i,rfl,hi,hD,hB⟩
       · rw [HTK.out] at hA
         have HL:=Lib.hid (show V=if s.size-1=0 then (0,0,11) else if ov=true then (0,0,5) else (2,1 * N,0) by rw [HS.out,hA.fin,HLEN.out])
         clear hA HST
         by_cases hz:s.size-1=0
         · rw [if_pos hz] at HL
           have hDz:(D==0)=true:=by rw [beq_iff_eq];omega
           clear hD hz
           go_wp2
           refine bodyPost_ret (zaa rfl _ _ w.heap.size 48 _ (0,0) _ rfl (set4 HBX.out _ _ _ _) Tryz.underlying48 rfl zal _ rfl) rfl ⟨?_,zad HB0.out (Nat.le_refl _) _ _ _ _⟩
           rw [HL.out]
           rfl
         · rw [if_neg hz] at HL
           have hDz:(D==0)=false:=by rw [beq_eq_false_iff_ne];omega
           clear hD hz
           cases ov
           · rw [if_neg (by decide)] at HL
             have hNo2:=hNo rfl
             go_wp2
             refine bodyPost_ret (zaa rfl _ _ w.heap.size 48 _ (0,0) _ rfl (zao _ (set4 HBX.out _ _ _ _)) Tryz.underlying48 rfl zal _ rfl) rfl ⟨?_,(zad HB0.out (Nat.le_refl _) _ _ _ _).alloc (by simpa using Nat.le_of_lt hwlt) _⟩
             rw [HL.out]
             simp [valC,zba]
           · rw [if_pos rfl] at HL
             go_wp2
             refine bodyPost_ret (zaa rfl _ _ w.heap.size 48 _ (0,0) _ rfl (set4 HBX.out _ _ _ _) Tryz.underlying48 rfl zal _ rfl) rfl ⟨?_,zad HB0.out (Nat.le_refl _) _ _ _ _⟩
             rw [HL.out]
             rfl
       · rw [HTK.out] at hB
         have HL:=Lib.hid (show V=if s.size-1=1 then (0,0,11) else if ov=true∨(N=2147483647∧0<P) then (0,0,5) else (3,1 * (1000000 * N+P),0) by rw [HS.out,hB.fin,HLEN.out])
         clear hB HST
         have hpt:decide (0≤(1:Int)+(i:Int))=true:=decide_eq_true (by omega)
         have hpt2:decide (0≤(i:Int))=true:=decide_eq_true (by omega)
         have hpt3:0≤(1:Int)+(i:Int):=by omega
         by_cases hz:s.size-1=1
         · rw [if_pos hz] at HL
           have hDz:(D==0)=true:=by rw [beq_iff_eq];omega
           clear hD hz hi
           go_wp2
           refine bodyPost_ret (zaa rfl _ _ w.heap.size 48 _ (0,0) _ rfl (set4 HBX.out _ _ _ _) Tryz.underlying48 rfl zal _ rfl) rfl ⟨?_,zad HB0.out (Nat.le_refl _) _ _ _ _⟩
           rw [HL.out]
           rfl
         · rw [if_neg hz] at HL
           have hDz:(D==0)=false:=by rw [beq_eq_false_iff_ne];omega
           clear hD hz hi
           cases ov
           · have hNo2:=hNo rfl
             by_cases hNm:N=2147483647
             · have hNmd : (N == 2147483647) = true := by rw [beq_iff_eq]; exact hNm
               by_cases hPp:0<P
               · have hPd : decide (0 < P) = true := by simpa using hPp
                 rw [if_pos (.inr ⟨hNm,hPp⟩)] at HL
                 clear hNm
                 go_wp2
                 refine bodyPost_ret (zaa rfl _ _ w.heap.size 48 _ (0,0) _ rfl (set4 HBX.out _ _ _ _) Tryz.underlying48 rfl zal _ rfl) rfl ⟨?_,zad HB0.out (Nat.le_refl _) _ _ _ _⟩
                 rw [HL.out]
                 rfl
               · have hPd : decide (0 < P) = false := by simpa using hPp
                 rw [if_neg (by rintro (h|h);cases h;exact hPp h.2)] at HL
                 clear hNm
                 go_wp2
                 refine bodyPost_ret (zaa rfl _ _ w.heap.size 48 _ (0,0) _ rfl (zao _ (set4 HBX.out _ _ _ _)) Tryz.underlying48 rfl zal _ rfl) rfl ⟨?_,(zad HB0.out (Nat.le_refl _) _ _ _ _).alloc (by simpa using Nat.le_of_lt hwlt) _⟩
                 rw [HL.out]
                 simp [valC,zba]
             · have hNmd : (N == 2147483647) = false := by rw [beq_eq_false_iff_ne]; exact hNm
               rw [if_neg (by rintro (h|h);cases h;exact hNm h.1)] at HL
               clear hNm
               go_wp2
               refine bodyPost_ret (zaa rfl _ _ w.heap.size 48 _ (0,0) _ rfl (zao _ (set4 HBX.out _ _ _ _)) Tryz.underlying48 rfl zal _ rfl) rfl ⟨?_,(zad HB0.out (Nat.le_refl _) _ _ _ _).alloc (by simpa using Nat.le_of_lt hwlt) _⟩
               rw [HL.out]
               simp [valC,zba]
           · rw [if_pos (.inl rfl)] at HL
             go_wp2
             refine bodyPost_ret (zaa rfl _ _ w.heap.size 48 _ (0,0) _ rfl (set4 HBX.out _ _ _ _) Tryz.underlying48 rfl zal _ rfl) rfl ⟨?_,zad HB0.out (Nat.le_refl _) _ _ _ _⟩
             rw [HL.out]
             rfl
end Go.Proofs.YtkhcjoomijkfbaaGreatDoor
