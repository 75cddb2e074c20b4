/-
  Our texts SpC to Src7, in one.
-/
import Derived.Test.YtfafdeemfeaedaaGreatPkQ9
import Derived.Test.YtfafdeemfeaedaaGreatProg
import Derived.BigQuiet
import Derived.Lib.SliceRun
import Derived.Deep.RegionHeld3
import Derived.RegionTactic
import Derived.ChangeAlike
import Derived.IntWalk
import Derived.Shelf.SlSortCmp.NoneTotal
import Derived.Deep.AppendLies
import Derived.Deep.RegionLaw
import Derived.StillTailTactics
set_option maxRecDepth 8000
set_option maxHeartbeats 8000000
namespace Go.Proofs.YtfafdeemfeaedaaGreat
open Go.RowKit Go.Sort
theorem ETS:zdM Tryz.prog 50 129 (.agg #[.int .i64 0,.int .i64 0]) 2 16:=⟨Tryz.underlying50,by kernel_rfl,rfl,by omega⟩
theorem cloneS (a:Option Addr) (n cap:Nat) (xs:List Value) (w:World) (hr:Row w 2 a n cap xs) (h1:∀u∈xs,u.oneCell'=true) (hby:n*16<=140737488355328) :
  Calls Tryz.prog 141 #[.slice a n cap] w fun e w'=>∃v,e=.returned v/\w'.ownsRow w.heap.size 129 2 v n xs/\Below w.heap.size w w'/\NN a v:=by
 rcases a with _|ad
 ·obtain ⟨r1,r2,r3,r4,r5⟩:=hr
  obtain rfl:=r4 rfl
  obtain rfl:n=0:=by omega
  obtain rfl:xs=[]:=List.eq_nil_of_length_eq_zero (by simpa using r1)
  have hnil:=fun W:World=>Lib.run_eql_slice_nil (P:=Tryz.prog) W 50 129 none 0 0 0 0 Tryz.underlying50
  go_enter Tryz.func141,Tryz.ntmps141
  go_wp2
  go_ret
  exact ⟨_,rfl,World.ownsRow_nil _ _ _ _,Below.refl _ _,fun h=>absurd rfl h⟩
 ·have hm:n<=maxLen:=Nat.le_trans hr.2.1 hr.2.2.1
  have hnil:=fun W:World=>Lib.run_eql_slice_nil (P:=Tryz.prog) W 50 129 (some ad) n cap 0 0 Tryz.underlying50
  have HR:=ya (hr.mono (zag w (.cells #[] 129)))
  have hO:=World.ownsRow_lit (base:=w.heap.size) (e:=129) (size:=2) w #[] 0 (ym _) (by simp [maxLen]) (by simp)
  have HO:=ya hO
  clear hO hr
  go_enter Tryz.func141,Tryz.ntmps141
  go_wp2_with (at_builtin;refine zbj ETS rfl (.tmp 5) (.tmp 6) rfl w.heap.size (.slice (some ⟨w.heap.size,0,none⟩) 0 0) 0 _ rfl HO.out _ n _ _ rfl HR.out h1 (by omega) (by omega) (by simp) ?_;intro v' w1 hO1 hg hnil;have HO1:=ya hO1;have HN:=ya hnil;have HG:=ya hg;clear hO1 hnil hg)
  go_ret
  refine ⟨_,rfl,by simpa using HO1.out,below_grown (zag w _) HG.out (by rw [zan];omega) (fun k hk=>by simp [Value.ownBlock] at hk;omega),fun _ h=>?_⟩
  have:=HN.out.1 h;simp at this
theorem zeY (x y:Int) (w:World) :
  Calls Tryz.prog 136 #[.agg #[.int .i64 x,.int .i64 y]] w fun e w'=>e=.returned (.bool (emp (x,y)))/\w'=w.alloc (.cells #[.int .i64 x,.int .i64 y] 129):=by
 have hv:emp (x,y)=(decide (x<0)||decide (y<=x)):=rfl
 by_cases h1:x<0
 ·have h2:decide (x<0)=true:=by simpa using h1
  rw [h2,Bool.true_or] at hv
  have HV:=ya hv
  clear hv
  go_enter Tryz.func136,Tryz.ntmps136
  go_wp2
  go_ret
  exact ⟨zaY HV.out.symm,rfl⟩
 ·have h2:decide (x<0)=false:=by simpa using h1
  rw [h2,Bool.false_or] at hv
  have HV:=ya hv
  clear hv
  go_enter Tryz.func136,Tryz.ntmps136
  go_wp2
  go_ret
  exact ⟨zaY HV.out.symm,rfl⟩
theorem zdW:∀args w,(callFunc 136 args).run Tryz.prog w=.ok (.enter 136 args) w:=enters_of Tryz.func136 (by kernel_rfl) rfl
def FirstEmpty (L:List (Int×Int)) (r:Int):Prop:=(r=-1/\∀x∈L,emp x=false)\/∃k:Nat,r=(k:Int)/\k<L.length/\emp (L.getD k (0,0))=true/\∀j,j<k->emp (L.getD j (0,0))=false
def IndexEnd (L:List (Int×Int)) (w:World) (e:Ending) (w':World):Prop:=∃r,e=.returned (.int .i64 r)/\FirstEmpty L r/\Below w.heap.size w w'
theorem zfs (a:Option Addr) (n cap:Nat) (L:List (Int×Int)) (w:World) (hr:SRow w a n cap L) :
  Calls Tryz.prog 191 #[.slice a n cap,.func (.func 136) #[] #[]] w (IndexEnd L w):=by
 have hm:=hr.i64
 have hl:=hr.len
 have eg:=zdW
 have HL:=ya hl
 have HR:=ya hr
 clear hl hr
 go_enter Tryz.func191,Tryz.ntmps191
 go_wp2
 go_loopw [8] (fun i wr=>∃k:Nat,k<=n/\i=.int .i64 k/\Hid (∀j,j<k->emp (L.getD j (0,0))=false)/\Hid (Below w.heap.size w wr)) (fun i _=>n-(intOf i).toNat)
 case atStart=>exact ⟨0,by omega,rfl,ya (fun j h=>by omega),ya (Below.refl _ _)⟩
 case round =>
  obtain ⟨k,hk,rfl,HE,HB⟩:=hrel
  by_cases hlt:k<n
  ·obtain ⟨b,off,rfl,hblt,hc⟩:=SRow.at (HR.out.mono HB.out) k hlt
   obtain ⟨hc0,hc1⟩:=hc k hlt
   obtain ⟨x,y,hxy⟩:∃x y,L.getD k (0,0)=(x,y):=⟨_,_,rfl⟩
   rw [hxy] at hc0 hc1
   have HXY:=ya hxy
   simp only at hc0 hc1
   clear hc hxy
   have hem:=fun W=>zeY x y W
   generalize hb2:emp (x,y)=be at hem
   have HBE:=ya hb2
   have HEM:=ya hem
   clear hem hb2
   cases be
   ·go_wp2_with fail
    refine (HEM.out _).mono ?_
    rintro e w' ⟨rfl,rfl⟩
    go_wp2
    go_roundw
    case rel=>exact ⟨k+1,by omega,by go_num,ya (fun j hj=>by
     by_cases h:j=k
     ·subst h;rw [HXY.out];exact HBE.out
     ·exact HE.out j (by omega)),ya (HB.out.alloc (by exact HB.out.size) _)⟩
    case measure=>simp [intOf];omega
   ·go_wp2_with fail
    refine (HEM.out _).mono ?_
    rintro e w' ⟨rfl,rfl⟩
    go_wp2
    go_ret
    exact ⟨k,rfl,.inr ⟨k,rfl,by rw [HL.out];exact hlt,by rw [HXY.out];exact HBE.out,HE.out⟩,HB.out.alloc (by exact HB.out.size) _⟩
  ·obtain rfl:k=n:=by omega
   go_wp2
   go_ret
   exact ⟨-1,rfl,.inl ⟨rfl,fun x hx=>by
    obtain ⟨j,hj,he⟩:=List.mem_iff_getElem.1 hx
    have:=HE.out j (by rw [<-HL.out];exact hj)
    simpa [List.getD,hj,he] using this⟩,HB.out⟩
theorem zgu {w:World} {base e g n cap sz:Nat} {xs:List Value} (h:w.ownsRow base e sz (.slice (some ⟨g,0,none⟩) n cap) n xs) (t:Nat) (v:Value) :
  (w.setCell ⟨g,t,none⟩ v).ownsRow base e sz (.slice (some ⟨g,0,none⟩) n cap) n (xs.set t v):=by
 obtain ⟨h1,h2⟩:=h
 refine ⟨by simpa using h1,?_⟩
 rcases h2 with ⟨h3,_⟩|⟨g',cap',cur,hv,hbg,hg,hle,hcm,hcs,htk⟩
 ·cases h3
 ·simp only [Value.slice.injEq,Option.some.injEq,Addr.mk.injEq] at hv
  obtain ⟨⟨rfl,_,_⟩,-,rfl⟩:=hv
  refine .inr ⟨g,cap,cur.setIfInBounds t v,rfl,hbg,heap_setCell_same w g t cur e v hg,hle,hcm,by simpa using hcs,?_⟩
  rw [Array.toList_setIfInBounds,List.take_set,htk]
theorem zc9 {w:World} {base e g n cap sz:Nat} {xs:List Value} (h:w.ownsRow base e sz (.slice (some ⟨g,0,none⟩) n cap) n xs) (t:Nat):w.frozen? ⟨g,t,none⟩=false:=by
 obtain ⟨h1,h2⟩:=h
 rcases h2 with ⟨h3,_⟩|⟨g',cap',cur,hv,hbg,hg,hle,hcm,hcs,htk⟩
 ·cases h3
 ·simp only [Value.slice.injEq,Option.some.injEq,Addr.mk.injEq] at hv
  obtain ⟨⟨rfl,_,_⟩,-,rfl⟩:=hv
  exact frozen_of_row w g t cur e hg
theorem zgF {w:World} {base e g n cap:Nat} {L:List (Int×Int)} (h:w.ownsRow base e 2 (.slice (some ⟨g,0,none⟩) n cap) n (spV L)):SRow w (some ⟨g,0,none⟩) n cap L:=(Row.of_own h).2
theorem zcx {w:World} {base e g n cap:Nat} {L:List (Int×Int)} (h:w.ownsRow base e 2 (.slice (some ⟨g,0,none⟩) n cap) n (spV L)) (k:Nat) (hk:k<n) :
  w.cell? ⟨g,k*2,none⟩=some (.int .i64 (L.getD k (0,0)).1)/\w.cell? ⟨g,k*2+1,none⟩=some (.int .i64 (L.getD k (0,0)).2):=by
 obtain ⟨b,off,hb,_,hc⟩:=SRow.at (zgF h) k hk
 simp only [Option.some.injEq,Addr.mk.injEq] at hb
 obtain ⟨rfl,rfl,_⟩:=hb
 simpa using hc k hk
theorem spV_set:∀(L:List (Int×Int)) (k:Nat) (x:Int×Int),((spV L).set (k*2) (.int .i64 x.1)).set (k*2+1) (.int .i64 x.2)=spV (L.set k x)
 | [],k,x=>by simp [spV]
 | y::L,0,x=>by simp [spV]
 | y::L,k+1,x=>by
  have:=spV_set L k x
  rw [show (k+1)*2=k*2+1+1 from by omega]
  simp only [spV,List.set_cons_succ,this]
theorem spV_take:∀(L:List (Int×Int)) (k:Nat),(spV L).take (k*2)=spV (L.take k)
 | [],k=>by simp [spV]
 | y::L,0=>by simp [spV]
 | y::L,k+1=>by
  have:=spV_take L k
  rw [show (k+1)*2=k*2+1+1 from by omega]
  simp only [spV,List.take_succ_cons,this]
theorem clear_tail {w:World} {base g n cap i:Nat} {L:List (Int×Int)} (h:w.ownsRow base 129 2 (.slice (some ⟨g,0,none⟩) n cap) n (spV L)) (hi:i<n) :
  ∃w',(∀ty,(Builtin.clear_ #[50] ty #[.slice (some ⟨g,i*2,none⟩) (n - i) (cap - i)]).run Tryz.prog w=.ok (.tuple #[]) w') /\
   w'.ownsRow base 129 2 (.slice (some ⟨g,0,none⟩) i cap) i (spV (L.take i))/\w.grownBy w' (some g):=by
 obtain ⟨h1,h2⟩:=h
 rcases h2 with ⟨h3,_⟩|⟨g',cap',cur,hv,hbg,hg,hle,hcm,hcs,htk⟩
 ·cases h3
 simp only [Value.slice.injEq,Option.some.injEq,Addr.mk.injEq] at hv
 obtain ⟨⟨rfl,_,_⟩,-,rfl⟩:=hv
 have hz:∀w,(zeroValue 129).run Tryz.prog w=.ok (.agg #[.int .i64 0,.int .i64 0]) w:=Tryz.zeroValue129
 have hzc:(Value.agg #[.int .i64 0,.int .i64 0]).cells=#[.int .i64 0,.int .i64 0]:=rfl
 have hlen:(Builtin.zeroCells (#[.int .i64 0,.int .i64 0]:Array Value) (n-i)).toList.length=(n-i)*2:=by simp [Builtin.zeroCells]
 have h1c:∀v∈(Builtin.zeroCells (#[.int .i64 0,.int .i64 0]:Array Value) (n-i)).toList,v.oneCell'=true:=by
  intro v hv
  simp [Builtin.zeroCells] at hv
  obtain ⟨q,_,rfl⟩:=hv
  rcases Nat.mod_two_eq_zero_or_one q with h0|h0<;>rw [h0]<;>rfl
 have hll:L.length=n:=by rw [zbJ] at h1;omega
 have hst:=run_storeCells_at (P:=Tryz.prog) g (i*2) 129 (Builtin.zeroCells (#[.int .i64 0,.int .i64 0]:Array Value) (n-i)).toList 0 cur w hg (by rw [hlen,hcs];omega) h1c
 refine ⟨w.setRow g (cur.toList.take (i*2+0)++(Builtin.zeroCells (#[.int .i64 0,.int .i64 0]:Array Value) (n-i)).toList++cur.toList.drop (i*2+0+(Builtin.zeroCells (#[.int .i64 0,.int .i64 0]:Array Value) (n-i)).toList.length)).toArray,fun ty=>?_,?_,?_⟩
 ·obtain ⟨m,hm⟩:∃m,n-i=m+1:=⟨n-i-1,by omega⟩
  have hzc2:(Builtin.zeroCells (Value.agg #[.int .i64 0,.int .i64 0]).cells (m+1)).toList=(Builtin.zeroCells (#[.int .i64 0,.int .i64 0]:Array Value) (n-i)).toList:=by rw [hm,hzc]
  generalize (Builtin.zeroCells (#[.int .i64 0,.int .i64 0]:Array Value) (n-i)).toList=Z at *
  rw [hm]
  simp [Builtin.clear_,run_underlying Tryz.underlying50,hz,hzc2,hst]
 ·refine ⟨by rw [zbJ];simp [hll];omega,.inr ⟨g,cap,_,rfl,hbg,setRow_heap w g cur _ _ (0,0) hg,by omega,hcm,?_,?_⟩⟩
  ·simp only [List.size_toArray,List.length_append,List.length_take,yj,Array.length_toList,hlen]
   omega
  ·rw [Nat.add_zero,List.append_assoc,List.take_append_of_le_length (by simp;omega),List.take_take,Nat.min_self]
   have:(cur.toList.take (n*2)).take (i*2)=(spV L).take (i*2):=by rw [htk]
   rw [List.take_take,Nat.min_eq_left (by omega)] at this
   rw [this,spV_take]
 ·exact ⟨rfl,rfl,rfl,by simp,fun k _ hne=>setRow_other w g k _ (fun e=>hne (by rw [e]))⟩
def full (L:List (Int×Int)):List (Int×Int):=L.filter fun x=>!emp x
theorem full_all {L:List (Int×Int)} (h:∀x∈L,emp x=false):full L=L:=List.filter_eq_self.2 fun x hx=>by rw [h x hx];rfl
theorem zbW (L:List (Int×Int)) (k:Nat) (h:k<L.length):L.take (k+1)=L.take k++[L.getD k (0,0)]:=by
 rw [List.take_succ_eq_append_getElem h];simp [List.getD,h]
theorem zeH (L:List (Int×Int)) (k:Nat) (h:k<L.length):full (L.take (k+1))=full (L.take k)++if emp (L.getD k (0,0))=true then [] else [L.getD k (0,0)]:=by
 rw [zbW L k h]
 unfold full
 rw [List.filter_append]
 congr 1
 cases hE:emp (L.getD k (0,0)) with
 | true=>rw [yf rfl,List.filter_cons,hE,List.filter_nil];rfl
 | false=>rw [yg (by simp),List.filter_cons,hE,List.filter_nil];rfl
def DelEnd (base g cap:Nat) (L:List (Int×Int)) (w:World) (e:Ending) (w':World):Prop :=
 ∃k,e=.returned (.slice (some ⟨g,0,none⟩) k cap)/\w'.ownsRow base 129 2 (.slice (some ⟨g,0,none⟩) k cap) k (spV (full L))/\zae (fun b=>b=g) w w'
structure zfh (base g n cap:Nat) (L:List (Int×Int)) (w:World) (i j:Nat) (R:List (Int×Int)) (wr:World):Prop where
 own:wr.ownsRow base 129 2 (.slice (some ⟨g,0,none⟩) n cap) n (spV R)
 keeps:zae (fun b=>b=g) w wr
 head:R.take i=full (L.take j)
 rest:∀q,j<=q->R.getD q (0,0)=L.getD q (0,0)
theorem zfh.len {base g n cap:Nat} {L R:List (Int×Int)} {w wr:World} {i j:Nat} (h:zfh base g n cap L w i j R wr):R.length=n:=by
 have:=h.own.1;rw [zbJ] at this;omega
theorem zfh.drop {base g n cap:Nat} {L R:List (Int×Int)} {w wr:World} {i j:Nat} (h:zfh base g n cap L w i j R wr) (hj:j<L.length) (he:emp (L.getD j (0,0))=true) {wr2:World} (ho:wr2.ownsRow base 129 2 (.slice (some ⟨g,0,none⟩) n cap) n (spV R)) (hk:zae (fun b=>b=g) w wr2) :
  zfh base g n cap L w i (j+1) R wr2 :=
 ⟨ho,hk,by rw [zeH L j hj,yf he,List.append_nil];exact h.head,fun q hq=>h.rest q (by omega)⟩
theorem zfh.keep {base g n cap:Nat} {L R:List (Int×Int)} {w wr:World} {i j:Nat} (h:zfh base g n cap L w i j R wr) (hij:i<j) (hj:j<L.length) (hl:L.length=n) (he:emp (L.getD j (0,0))=false) {wr2:World}
  (ho:wr2.ownsRow base 129 2 (.slice (some ⟨g,0,none⟩) n cap) n (spV (R.set i (L.getD j (0,0))))) (hk:zae (fun b=>b=g) w wr2) :
  zfh base g n cap L w (i+1) (j+1) (R.set i (L.getD j (0,0))) wr2:=by
 have hR:=h.len
 refine ⟨ho,hk,?_,fun q hq=>?_⟩
 ·rw [zeH L j hj,yg (by rw [he];simp),zbW _ i (by simp;omega),<-h.head]
  congr 1
  ·exact List.take_set_of_le (ym _)
  ·simp [List.getD,show i<R.length from by omega]
 ·have h1:=h.rest q (by omega)
  rw [<-h1]
  simp [List.getD,show ¬i=q from by omega]
theorem delete_any (base g n cap:Nat) (L:List (Int×Int)) (w:World) (h:w.ownsRow base 129 2 (.slice (some ⟨g,0,none⟩) n cap) n (spV L)) :
  Calls Tryz.prog 166 #[.slice (some ⟨g,0,none⟩) n cap,.func (.func 136) #[] #[]] w (DelEnd base g cap L w):=by
 have hr:=zgF h
 have hm:=hr.i64
 have hmc:=hr.i64c
 have hncap:=hr.2.1
 have hl:=hr.len
 have eg:=zdW
 have hgl:=(h.lt g rfl).2
 have hix:=zfs _ n cap L w hr
 have HIX:=ya hix
 have HL:=ya hl
 have HO:=ya h
 clear hix hl hr h
 go_enter Tryz.func166,Tryz.ntmps166
 go_wp2_with fail
 refine HIX.out.mono ?_
 rintro e w1 ⟨r,rfl,hF,hb1⟩
 have hO1:=zaH HO.out hb1
 have hK1:zae (fun b=>b=g) w w1:=⟨hb1.os,hb1.tape,hb1.output,hb1.size,fun b hb _=>hb1.block b hb⟩
 have HO1:=ya hO1
 have HK1:=ya hK1
 clear hO1 hK1 hb1
 rcases hF with ⟨rfl,hall⟩|⟨k,rfl,hk,hek,hlt⟩
 ·have HA:=ya hall
  clear hall
  go_wp2
  go_ret
  exact ⟨n,rfl,by rw [full_all HA.out];exact HO1.out,HK1.out⟩
 ·have hkn:k<n:=by rw [<-HL.out];exact hk
  have hne:((k:Int)==-1)=false:=by rw [ye];omega
  have hstart:zfh base g n cap L w k (k+1) L w1:=⟨HO1.out,HK1.out,by
   rw [zeH L k hk,yf hek,List.append_nil,full_all (fun x hx=>?_)]
   obtain ⟨j,hj,he⟩:=List.mem_iff_getElem.1 hx
   have hjk:j<k:=by simp at hj;omega
   have:=hlt j hjk
   have hjl:j<L.length:=by omega
   rw [List.getElem_take] at he
   simpa [List.getD,hjl,he] using this,fun q _=>rfl⟩
  have HST:=ya hstart
  clear hstart hek hlt HO1 HK1 hk
  go_wp2
  go_loopw [5,6] (fun vi vj wr=>∃(i j:Nat) (R:List (Int×Int)),vi=.int .i64 i/\vj=.int .i64 j/\i<j/\j<=n/\Hid (zfh base g n cap L w i j R wr)) (fun _ vj _=>n-(intOf vj).toNat)
  case atStart=>exact ⟨k,k+1,L,rfl,by go_num,by omega,by omega,HST⟩
  case round =>
   obtain ⟨i,j,R,rfl,rfl,hij,hjn,HD⟩:=hrel
   clear HST
   by_cases hlt:j<n
   ·obtain ⟨c0,c1⟩:=zcx HD.out.own j hlt
    rw [HD.out.rest j (ym _)] at c0 c1
    have hjl:j<L.length:=by rw [HL.out];exact hlt
    obtain ⟨x,y,hxy⟩:∃x y,L.getD j (0,0)=(x,y):=⟨_,_,rfl⟩
    rw [hxy] at c0 c1
    have HXY:=ya hxy
    simp only at c0 c1
    have hem:=fun W=>zeY x y W
    generalize hb2:emp (x,y)=be at hem
    have HBE:=ya hb2
    have HEM:=ya hem
    have hglr:g<wr.heap.size:=(HD.out.own.lt g rfl).2
    clear hem hb2 hxy
    cases be
    ·obtain ⟨d0,d1⟩:=zcx HD.out.own i (by omega)
     have f0:=zc9 HD.out.own (i*2)
     have f1:=zc9 HD.out.own (i*2+1)
     go_wp2_with fail
     refine (HEM.out _).mono ?_
     rintro e w' ⟨rfl,rfl⟩
     go_wp2
     go_roundw
     case rel =>
      have h1:=zgu (zgu HD.out.own (i*2) (.int .i64 x)) (i*2+1) (.int .i64 y)
      rw [spV_set R i (x,y),<-HXY.out] at h1
      exact ⟨i+1,j+1,R.set i (L.getD j (0,0)),by go_num,by go_num,by omega,by omega,ya (HD.out.keep hij hjl HL.out (by rw [HXY.out];exact HBE.out) ((h1.alloc _).alloc _) ((((HD.out.keeps.setCell (.inl rfl) _).setCell (.inl rfl) _).alloc _).alloc _))⟩
     case measure=>simp [intOf];omega
    ·go_wp2_with fail
     refine (HEM.out _).mono ?_
     rintro e w' ⟨rfl,rfl⟩
     go_wp2
     go_roundw
     case rel=>exact ⟨i,j+1,R,rfl,by go_num,by omega,by omega,ya (HD.out.drop hjl (by rw [HXY.out];exact HBE.out) ((HD.out.own.alloc _).alloc _) ((HD.out.keeps.alloc _).alloc _))⟩
     case measure=>simp [intOf];omega
   ·obtain rfl:j=n:=by omega
    obtain ⟨w2,hrun,hown,hg2⟩:=clear_tail HD.out.own hij
    have hci:¬cap=i:=by omega
    have hhead:=HD.out.head
    rw [show L.take j=L from by rw [<-HL.out];exact List.take_length] at hhead
    rw [hhead] at hown
    have HOWN:=ya hown
    have HG2:=ya hg2
    have HHEAD:=ya hhead
    clear hown hg2 hhead
    go_wp2
    go_ret
    exact ⟨i,rfl,HOWN.out,HD.out.keeps.grown HG2.out (fun k hk=>.inl (by cases hk;rfl))⟩
theorem delete_nil (w:World) :
  Calls Tryz.prog 166 #[.slice none 0 0,.func (.func 136) #[] #[]] w fun e w'=>e=.returned (.slice none 0 0)/\Below w.heap.size w w':=by
 have hix:=zfs none 0 0 [] w (Row.nil w 2)
 have HIX:=ya hix
 clear hix
 go_enter Tryz.func166,Tryz.ntmps166
 go_wp2_with fail
 refine HIX.out.mono ?_
 rintro e w1 ⟨r,rfl,hF,hb1⟩
 have hr:r=-1:=by
  rcases hF with ⟨h,_⟩|⟨k,_,hk,_⟩
  ·exact h
  ·simp at hk
 subst hr
 go_wp2
 go_ret
 exact ⟨rfl,hb1⟩
def JoinAt (gap:Int) (S:List (Int×Int)) (k:Nat) (out:List (Int×Int)):Prop :=
 (k=0/\out=[])\/∃front f b,0<=f/\f<b/\b<=9223372036854775807/\out=front++[(f,b)]/\zbN gap S=front++(f,(tl gap b (S.drop k)).1)::(tl gap b (S.drop k)).2
theorem zcd {S:List (Int×Int)} {k:Nat} (h:k<S.length):S.drop k=S.getD k (0,0)::S.drop (k+1):=by
 rw [List.drop_eq_getElem_cons h];simp [List.getD,h]
theorem joinAt_first {gap:Int} {S:List (Int×Int)} (h:0<S.length) {x y:Int} (hx:S.getD 0 (0,0)=(x,y)) (h0:0<=x) (h1:x<y) (h2:y<=9223372036854775807):JoinAt gap S 1 [(x,y)]:=by
 refine .inr ⟨[],x,y,h0,h1,h2,rfl,?_⟩
 have:=zcd h
 rw [List.drop_zero,hx] at this
 rw [this];rfl
theorem joinAt_app {gap:Int} {S front:List (Int×Int)} {k:Nat} {f b x y:Int} (h:k<S.length) (hx:S.getD k (0,0)=(x,y)) (h0:0<=x) (h1:x<y) (h2:y<=9223372036854775807) (hc:¬x-b<=gap)
  (hj:zbN gap S=front++(f,(tl gap b (S.drop k)).1)::(tl gap b (S.drop k)).2):JoinAt gap S (k+1) (front++[(f,b)]++[(x,y)]):=by
 refine .inr ⟨front++[(f,b)],x,y,h0,h1,h2,rfl,?_⟩
 rw [hj,zcd h,hx]
 simp only [tl,yg hc]
 rw [List.append_assoc];rfl
theorem joinAt_mrg {gap:Int} {S front:List (Int×Int)} {k:Nat} {f b x y:Int} (h:k<S.length) (hx:S.getD k (0,0)=(x,y)) (h0:0<=f) (h1:f<b) (hb:b<=9223372036854775807) (h2:y<=9223372036854775807) (hc:x-b<=gap)
  (hj:zbN gap S=front++(f,(tl gap b (S.drop k)).1)::(tl gap b (S.drop k)).2):JoinAt gap S (k+1) (front++[(f,max b y)]):=by
 refine .inr ⟨front,f,max b y,h0,by omega,by omega,rfl,?_⟩
 rw [hj,zcd h,hx]
 simp only [tl,yf hc]
theorem joinAt_end {gap:Int} {S out:List (Int×Int)} (h:JoinAt gap S S.length out):out=zbN gap S:=by
 rcases h with ⟨h1,h2⟩|⟨front,f,b,_,_,_,h1,h2⟩
 ·have:S=[]:=List.eq_nil_of_length_eq_zero h1
  subst this;rw [h2];rfl
 ·rw [h2,h1,List.drop_length];rfl
def JoinEnd (gap:Int) (L:List (Int×Int)) (w:World) (e:Ending) (w':World):Prop :=
 ∃(S:List (Int×Int)) (v:Value),S.Perm (full L)/\S.Pairwise (fun x y=>x.1<=y.1)/\e=.returned v/\w'.ownsRow w.heap.size 129 2 v (zbN (max 0 gap) S).length (spV (zbN (max 0 gap) S))/\Below w.heap.size w w'
theorem zgy (w:World) (x y:Value) (e:TypeId):Row (w.alloc (.cells #[x,y] e)) 2 (some ⟨w.heap.size,0,none⟩) 1 1 [x,y] :=
 ⟨rfl,ym _,by simp [maxLen],fun h=>(by cases h),fun _=>⟨w.heap.size,0,rfl,by rw [zan];omega,fun j u hj=>by
  rw [cell_of_row _ _ _ _ _ _ (zac _ rfl)]
  rcases j with _|_|j
  ·simpa using hj
  ·simpa using hj
  ·simp at hj⟩⟩
def Fit (L:List (Int×Int)):Prop:=∀x∈L,-9223372036854775808<=x.1/\x.1<=9223372036854775807/\-9223372036854775808<=x.2/\x.2<=9223372036854775807
theorem full_mem {L S:List (Int×Int)} (hp:S.Perm (full L)) (hf:Fit L):∀x∈S,0<=x.1/\x.1<x.2/\x.2<=9223372036854775807:=fun x hx=>by
 have h1:=List.mem_filter.1 (hp.mem_iff.1 hx)
 have h2:=zbo.1 (by simpa using h1.2)
 exact ⟨h2.1,h2.2,(hf x h1.1).2.2.2⟩
theorem spV_set2:∀(L:List (Int×Int)) (q:Nat) (f b z:Int),L.getD q (0,0)=(f,b)->(spV L).set (q*2+1) (.int .i64 z)=spV (L.set q (f,z))
 | [],q,f,b,z,_=>by simp [spV]
 | y::L,0,f,b,z,h=>by
  simp [List.getD] at h
  subst h
  simp [spV]
 | y::L,k+1,f,b,z,h=>by
  have:=spV_set2 L k f b z (by simpa [List.getD] using h)
  rw [show (k+1)*2+1=k*2+1+1+1 from by omega]
  simp only [spV,List.set_cons_succ,this]
theorem last_get (front:List (Int×Int)) (z:Int×Int):(front++[z]).getD front.length (0,0)=z:=by simp [List.getD]
theorem last_set (front:List (Int×Int)) (z z':Int×Int):(front++[z]).set front.length z'=front++[z']:=by simp
theorem own_shape {w:World} {base e sz n:Nat} {v:Value} {xs:List Value} (h:w.ownsRow base e sz v n xs) (hn:0<n*sz):∃g cap,v=.slice (some ⟨g,0,none⟩) n cap/\base<=g:=by
 obtain ⟨h1,h2⟩:=h
 rcases h2 with ⟨_,h3⟩|⟨g,cap,cur,hv,hb,_⟩
 ·subst h3;simp at h1;omega
 ·exact ⟨g,cap,hv,hb⟩
theorem SetV.none (w:World):SetV w none []:=.inl ⟨rfl,rfl⟩
def AllEnd (T:List (Int×Int)) (w:World) (e:Ending) (w':World):Prop:=∃v,e=.returned v/\w'.ownsRow w.heap.size 129 2 v T.length (spV T)/\Below w.heap.size w w'
theorem zfC (pv:Option Addr) (T:List (Int×Int)) (w:World) (h:SetV w pv T) (hn:T.length<=1000000) :
  Calls Tryz.prog 104 #[.pointer pv] w (AllEnd T w):=by
 rcases h with ⟨rfl,rfl⟩|⟨p,o,a,c,rfl,k0,hr⟩
 ·go_enter Tryz.func104,Tryz.ntmps104
  go_wp2
  go_ret
  exact ⟨_,rfl,World.ownsRow_nil _ _ _ _,Below.refl _ _⟩
 ·have hcl:=cloneS a T.length c (spV T) w hr (zbh T) (by omega)
  have HC:=ya hcl
  clear hcl hr
  go_enter Tryz.func104,Tryz.ntmps104
  go_wp2_with (go_at_call 141;refine HC.out.mono ?_;rintro e w1 ⟨v,rfl,hO,hb,hnn⟩;have HO:=ya hO;have HB:=ya hb;clear hO hb hnn)
  go_ret
  exact ⟨_,rfl,HO.out,HB.out⟩
def sumS (L:List (Int×Int)):Int:=(L.map fun x=>x.2-x.1).foldr (· + ·) 0
def zbs:List (Int×Int)->Int->Int
 | [],at_=>at_
 | x::L,at_=>if x.1<=at_/\at_<x.2 then x.2 else zbs L at_
theorem upto_any (pv:Option Addr) (T:List (Int×Int)) (at_:Int) (w:World) (h:SetV w pv T) (hn:T.length<=1000000) :
  Calls Tryz.prog 71 #[.pointer pv,.int .i64 at_] w fun e w'=>e=.returned (.int .i64 (zbs T at_))/\Below w.heap.size w w':=by
 have HA:=ya (zfC pv T w h hn)
 obtain ⟨n,hnn⟩:∃n,n=T.length:=⟨_,rfl⟩
 have HN:=ya hnn
 rw [<-hnn] at hn
 clear h hnn
 go_enter Tryz.func71,Tryz.ntmps71
 go_wp2_with fail
 refine HA.out.mono ?_
 rintro e w1 ⟨v,rfl,hO,hb⟩
 obtain ⟨a,c,rfl,hr,_⟩:=Row.of_owns hO
 rw [<-HN.out] at hr |-
 have HR:=ya hr
 have HB:=ya hb
 clear hO hr hb
 go_wp2
 go_loopw [10] (fun i wr=>∃k:Nat,i=.int .i64 k/\k<=n/\Hid (zbs T at_=zbs (T.drop k) at_)/\Hid (Below w1.heap.size w1 wr)) (fun i _=>n-(intOf i).toNat)
 case atStart=>exact ⟨0,rfl,Nat.zero_le _,ya rfl,ya (Below.refl _ _)⟩
 case round =>
  obtain ⟨k,rfl,hk,HU,HBk⟩:=hrel
  by_cases hlt:k<n
  ·obtain ⟨b,off,rfl,hblt,hc⟩:=SRow.at (HR.out.mono HBk.out) k hlt
   obtain ⟨hc0,hc1⟩:=hc k hlt
   have hkT:k<T.length:=by rw [<-HN.out];exact hlt
   have hu:=HU.out
   rw [zcd hkT] at hu
   obtain ⟨x,y,hxy⟩:∃x y,T.getD k (0,0)=(x,y):=⟨_,_,rfl⟩
   rw [hxy] at hc0 hc1 hu
   simp only [zbs] at hc0 hc1 hu
   have HU2:=ya hu
   clear hc hxy hu
   by_cases c1:x<=at_
   ·by_cases c2:at_<y
    ·go_wp2
     go_ret
     exact ⟨zav (by rw [HU2.out,yf ⟨c1,c2⟩]),HB.out.trans ((HBk.out.alloc (by exact HBk.out.size) _).mono HB.out.size)⟩
    ·go_wp2
     go_roundw
     case rel=>exact ⟨k+1,by go_num,by omega,ya (by rw [HU2.out,yg (by omega)]),ya (HBk.out.alloc (by exact HBk.out.size) _)⟩
     case measure=>simp [intOf];omega
   ·have hd:decide (x<=at_)=false:=by simpa using c1
    go_wp2
    go_roundw
    case rel=>exact ⟨k+1,by go_num,by omega,ya (by rw [HU2.out,yg (by omega)]),ya (HBk.out.alloc (by exact HBk.out.size) _)⟩
    case measure=>simp [intOf];omega
  ·obtain rfl:k=n:=by omega
   have hu:=HU.out
   rw [show T.drop k=[] from by rw [HN.out];exact List.drop_length] at hu
   have HU2:=ya hu
   clear hu
   go_wp2
   go_ret
   exact ⟨zav (by rw [HU2.out];rfl),HB.out.trans (HBk.out.mono HB.out.size)⟩
def hasS (T:List (Int×Int)) (x:Int×Int):Bool:=emp x||decide (x.2<=zbs T x.1)
def za7 (tto:Int):Int->List (Int×Int)->List (Int×Int)
 | at_,[]=>if at_<tto then [(at_,tto)] else []
 | at_,z::L=>(if at_<min z.1 tto then [(at_,min z.1 tto)] else [])++za7 tto (max at_ (min z.2 tto)) L
def zcq (T:List (Int×Int)) (x:Int×Int):List (Int×Int):=if emp x=true then [] else za7 x.2 x.1 T
structure zcm (W:World) (ab ob base:Nat) (A:Int) (out:List (Int×Int)) (v:Value):Prop where
 a:W.heap[ab]?=some (.cells #[.int .i64 A] 3 (0,0))
 o:W.heap[ob]?=some (.cells #[v] 50 (0,0))
 row:W.ownsRow base 129 2 v out.length (spV out)
 ne:ob≠ab
 lt1:ab<base
 lt2:ob<base
 le:base<=W.heap.size
def PutMS (W:World) (ab ob base:Nat) (A tto:Int) (out:List (Int×Int)) (v:Value) (e:Ending) (w':World):Prop :=
 e=.returned (.tuple #[])/\∃v',zcm w' ab ob base A (out++if A<tto then [(A,tto)] else []) v'/\zae (fun b=>b=ob\/v.ownBlock=some b) W w'
theorem zcm.cells {W:World} {ab ob base:Nat} {A:Int} {out:List (Int×Int)} {v:Value} (h:zcm W ab ob base A out v) :
  W.cell? ⟨ab,0,none⟩=some (.int .i64 A)/\W.cell? ⟨ob,0,none⟩=some v/\W.frozen? ⟨ab,0,none⟩=false/\W.frozen? ⟨ob,0,none⟩=false :=
 ⟨by rw [cell_of_row W ab 0 _ _ _ h.a];rfl,by rw [cell_of_row W ob 0 _ _ _ h.o];rfl,frozen_of_row W ab 0 _ _ h.a,frozen_of_row W ob 0 _ _ h.o⟩
theorem zcm.alloc {W:World} {ab ob base:Nat} {A:Int} {out:List (Int×Int)} {v:Value} (h:zcm W ab ob base A out v) (o:Obj):zcm (W.alloc o) ab ob base A out v :=
 ⟨zai _ h.a,zai _ h.o,h.row.alloc _,h.ne,h.lt1,h.lt2,by rw [zan];have:=h.le;omega⟩
theorem zcm.setA {W:World} {ab ob base:Nat} {A:Int} {out:List (Int×Int)} {v:Value} (h:zcm W ab ob base A out v) (A':Int):zcm (W.setCell ⟨ab,0,none⟩ (.int .i64 A')) ab ob base A' out v :=
 ⟨by rw [heap_setCell_same W ab 0 _ _ _ h.a];rfl,by rw [heap_setCell_other _ _ _ _ h.ne];exact h.o,ownsRow_setCell_other h.row (a:=⟨ab,0,none⟩) (fun e=>by have:=(h.row.lt ab e).1;have:=h.lt1;omega) _,h.ne,h.lt1,h.lt2,by simpa [World.setCell] using h.le⟩
theorem putM_any (ab ob base:Nat) (A tto:Int) (out:List (Int×Int)) (v:Value) (W:World) (h:zcm W ab ob base A out v) (hn:out.length<=1000000) :
  Calls Tryz.prog 137 #[.int .i64 tto,.pointer (some ⟨ab,0,none⟩),.pointer (some ⟨ob,0,none⟩)] W (PutMS W ab ob base A tto out v):=by
 obtain ⟨k0,k1,f0,f1⟩:=h.cells
 obtain ⟨a,c,rfl,_,_⟩:=Row.of_owns h.row
 have hlo:ob<W.heap.size:=(Array.getElem?_eq_some_iff.1 h.o).1
 have hla:ab<W.heap.size:=(Array.getElem?_eq_some_iff.1 h.a).1
 have hob:=h.lt2
 have hab:=h.lt1
 have hle:=h.le
 have hne:=h.ne
 have H:=ya h
 clear h
 by_cases hlt:A<tto
 ·go_enter Tryz.func137,Tryz.ntmps137
  go_wp2_with (at_builtin;refine zbj ETS rfl (.tmp 7) (.tmp 11) rfl base _ out.length _ rfl (H.out.row.alloc _) _ 1 _ _ rfl (zgy _ _ _ _) (zbh [(A,tto)]) (by unfold maxLen;omega) (by omega) (by rw [zan];omega) ?_;intro v' w5 hO5 hg5 hnil5;obtain ⟨a5,c5,rfl,_,_⟩:=Row.of_owns hO5;have hO:=(hg5.block ob (by rw [zan];omega) (fun e=>by have:=(H.out.row.lt ob e.symm).1;omega)).trans ((Below.heap_alloc W _ ob hlo).trans H.out.o);have hA:=(hg5.block ab (by rw [zan];omega) (fun e=>by have:=(H.out.row.lt ab e.symm).1;omega)).trans ((Below.heap_alloc W _ ab hla).trans H.out.a);have e0:=cell_of_row w5 ob 0 _ _ _ hO;have e1:=frozen_of_row w5 ob 0 _ _ hO;have HO5:=ya hO5;have HG5:=ya hg5;have HO:=ya hO;have HA:=ya hA;clear hO5 hg5 hnil5 hO hA)
  go_end0
  refine ⟨rfl,.slice a5 (out.length+1) c5,⟨?_,?_,?_,hne,hab,hob,?_⟩,?_⟩
  ·rw [heap_setCell_other _ _ _ _ (fun e=>hne e.symm)];exact HA.out
  ·rw [heap_setCell_same w5 ob 0 _ _ _ HO.out];rfl
  ·rw [yf hlt,List.length_append,zcJ]
   exact ownsRow_setCell_other HO5.out (a:=⟨ob,0,none⟩) (fun e=>by have:=(HO5.out.lt ob e).1;omega) _
  ·have h1:=HG5.out.size
   rw [zan] at h1
   have h2:(w5.setCell ⟨ob,0,none⟩ (.slice a5 (out.length+1) c5)).heap.size=w5.heap.size:=by simp [World.setCell]
   omega
  ·exact (((zae.refl _ W).alloc _).grown HG5.out (fun k hk=>.inl (.inr hk))).setCell (.inl (.inl rfl)) _
 ·go_enter Tryz.func137,Tryz.ntmps137
  go_wp2
  go_end0
  exact ⟨rfl,_,by rw [yg (by omega),List.append_nil];exact H.out,zae.refl _ _⟩
def MissEnd (M:List (Int×Int)) (w:World) (e:Ending) (w':World):Prop:=∃v,e=.returned v/\w'.ownsRow w.heap.size 129 2 v M.length (spV M)/\Below w.heap.size w w'
theorem zdA (tto:Int):∀(L:List (Int×Int)) (A:Int),(za7 tto A L).length<=L.length+1
 | [],A=>by simp only [za7];split<;>simp
 | z::L,A=>by
  have:=zdA tto L (max A (min z.2 tto))
  simp only [za7,List.length_append,List.length_cons]
  split<;>simp<;>omega
theorem missing_any (pv:Option Addr) (T:List (Int×Int)) (x y:Int) (w:World) (h:SetV w pv T) (hn:T.length<=100000) :
  Calls Tryz.prog 96 #[.pointer pv,.agg #[.int .i64 x,.int .i64 y]] w (MissEnd (zcq T (x,y)) w):=by
 have hv:zcq T (x,y)=if emp (x,y)=true then [] else za7 y x T:=rfl
 have hbx:(w.alloc (.cells #[.int .i64 x,.int .i64 y] 129)).heap[w.heap.size]?=some (.cells #[.int .i64 x,.int .i64 y] 129 (0,0)):=zac _ rfl
 have hB0:=zag w (.cells #[.int .i64 x,.int .i64 y] 129)
 have hV:=h.mono hB0
 have hem:=fun W=>zeY x y W
 generalize hbe:emp (x,y)=be at hv hem
 have HV:=ya hv
 have HEM:=ya hem
 clear hv hem h hbe
 go_enter Tryz.func96,Tryz.ntmps96
 go_wp2_with fail
 generalize hWW:w.alloc (.cells #[.int .i64 x,.int .i64 y] 129)=W at *
 refine (HEM.out _).mono ?_
 rintro e w1 ⟨rfl,rfl⟩
 have HB0:=ya hB0
 have HSV:=ya hV
 have HBX:=ya hbx
 have hws:=hB0.size
 have hwl:w.heap.size<W.heap.size:=(Array.getElem?_eq_some_iff.1 hbx).1
 clear hWW hB0 hV hbx
 cases be
 ·have hbW:=zag W (.cells #[.int .i64 x,.int .i64 y] 129)
  have hSV1:=HSV.out.mono hbW
  have hBX1:=zaa hbW HBX.out
  have hB1:=HB0.out.trans (hbW.mono hws)
  have hs1:=hbW.size
  generalize W.alloc (.cells #[.int .i64 x,.int .i64 y] 129)=W1 at *
  have b0:W1.cell? ⟨w.heap.size,0,none⟩=some (.int .i64 x):=by rw [cell_of_row W1 _ 0 _ _ _ hBX1];rfl
  have b1:W1.cell? ⟨w.heap.size,1,none⟩=some (.int .i64 y):=by rw [cell_of_row W1 _ 1 _ _ _ hBX1];rfl
  have HSV1:=ya hSV1
  have HBX1:=ya hBX1
  have HB1:=ya hB1
  clear hbW hSV1 hBX1 hB1 HSV HBX HB0
  have hwl1:w.heap.size<W1.heap.size:=by omega
  have hwn1:¬w.heap.size=W1.heap.size:=by omega
  go_wp2_with fail
  have hbW2:=zaT W1 (.cells #[.slice none 0 0] 50) (.cells #[.int .i64 x] 3)
  have hO2:((W1.alloc (.cells #[.slice none 0 0] 50)).alloc (.cells #[.int .i64 x] 3)).heap[W1.heap.size]?=some (.cells #[.slice none 0 0] 50 (0,0)):=zai _ (zac _ rfl)
  have hA2:((W1.alloc (.cells #[.slice none 0 0] 50)).alloc (.cells #[.int .i64 x] 3)).heap[W1.heap.size+1]?=some (.cells #[.int .i64 x] 3 (0,0)):=zac _ (by rw [zan])
  have hsz2:((W1.alloc (.cells #[.slice none 0 0] 50)).alloc (.cells #[.int .i64 x] 3)).heap.size=W1.heap.size+1+1:=by rw [zan,zan]
  generalize (W1.alloc (.cells #[.slice none 0 0] 50)).alloc (.cells #[.int .i64 x] 3)=W2 at *
  obtain ⟨ob,hob⟩:∃ob,ob=W1.heap.size:=⟨_,rfl⟩
  have hs2:W2.heap.size=ob+2:=by rw [hob];omega
  have hwo:w.heap.size<ob:=by omega
  rw [<-hob] at hO2 hA2 |-
  obtain ⟨ab,hab⟩:∃ab,ab=ob+1:=⟨_,rfl⟩
  rw [<-hab] at hA2 |-
  have HAB:=ya hab
  have hao:ob<ab:=by omega
  have habs:ab<W2.heap.size:=by omega
  have HSV2:=ya (HSV1.out.mono hbW2)
  have HBX2:=ya (zaa hbW2 HBX1.out)
  have HB2:=ya (HB1.out.trans (hbW2.mono (by omega)))
  have HO2:=ya hO2
  have HA2:=ya hA2
  have hws2:w.heap.size<=W2.heap.size:=by omega
  clear hO2 hA2 hbW2 hsz2 hob hab hs2 hwl1 hwn1 b0 b1 hs1 hws hwl HSV1 HBX1 HB1
  refine (zfC pv T W2 HSV2.out (by omega)).mono ?_
  rintro e W3 ⟨v3,rfl,hO3,hb3⟩
  obtain ⟨a3,c3,rfl,hr3,hbl3⟩:=Row.of_owns hO3
  have hlt3:∀z,a3=some z->z.block<W3.heap.size:=fun z hz=>(hO3.lt z.block (by simp [Value.ownBlock,hz])).2
  have hs3:=hb3.size
  obtain ⟨base,hbase⟩:∃base,base=W3.heap.size:=⟨_,rfl⟩
  have hM3:zcm W3 ab ob base x [] (.slice none 0 0):=⟨zaa hb3 HA2.out,zaa hb3 HO2.out,World.ownsRow_nil _ _ _ _,by omega,by omega,by omega,by omega⟩
  have hbb:W2.heap.size<=base:=by omega
  have hneq:∀z,a3=some z->¬(z.block=ob\/z.block=ab\/base<=z.block):=fun z hz h=>by have h1:=hbl3 z hz;have h2:=hlt3 z hz;omega
  have HM3:=ya hM3
  have HR3:=ya hr3
  have HNEQ:=ya hneq
  have HBX3:=ya (zaa hb3 HBX2.out)
  have HB3:=ya (HB2.out.trans (hb3.mono hws2))
  have HBASE:=ya hbase
  have eg:∀args w,(callFunc 137 args).run Tryz.prog w=.ok (.enter 137 args) w:=enters_of Tryz.func137 (by kernel_rfl) rfl
  have hvm:zcq T (x,y)=za7 y x T:=HV.out
  have HVM:=ya hvm
  have hml:=zdA y T x
  obtain ⟨n,hnT⟩:∃n,n=T.length:=⟨_,rfl⟩
  have HN:=ya hnT
  rw [<-hnT] at hr3 hn hml HR3 |-
  have HML:=ya hml
  clear hO3 hr3 hb3 hbl3 hlt3 hM3 hneq hbase hvm hml hnT HSV2 HBX2 HO2 HA2
  go_wp2
  go_loopw [18] (fun vi wr=>∃(k:Nat) (A:Int) (out:List (Int×Int)) (vo:Value),vi=.int .i64 k/\k<=n/\Hid (za7 y x T=out++za7 y A (T.drop k))/\Hid (zcm wr ab ob base A out vo)/\Hid (zae (fun b=>b=ob\/b=ab\/base<=b) W3 wr)) (fun vi _=>n-(intOf vi).toNat)
  case atStart=>exact ⟨0,x,[],_,rfl,Nat.zero_le _,ya rfl,HM3,ya (zae.refl _ _)⟩
  case round =>
   obtain ⟨k,A,out,vo,rfl,hk,HE,HM,HK⟩:=hrel
   have hkb:wr.heap[w.heap.size]?=some (.cells #[.int .i64 x,.int .i64 y] 129 (0,0)):=HK.out.obj HBX3.out (by have:=HBASE.out;omega)
   have hb1:wr.cell? ⟨w.heap.size,1,none⟩=some (.int .i64 y):=by rw [cell_of_row wr _ 1 _ _ _ hkb];rfl
   have hwr:w.heap.size<wr.heap.size:=(Array.getElem?_eq_some_iff.1 hkb).1
   have hol:out.length<=1000000:=by
    have h1:=congrArg List.length HE.out
    rw [List.length_append] at h1
    have:=HML.out;omega
   have HKB:=ya hkb
   clear hkb
   by_cases hlt:k<n
   ·obtain ⟨b,off,rfl,_,hc⟩:=SRow.at (HR3.out.keeps HK.out HNEQ.out) k hlt
    obtain ⟨hc0,hc1⟩:=hc k hlt
    have hkT:k<T.length:=by rw [<-HN.out];exact hlt
    have hE:=HE.out
    rw [zcd hkT] at hE
    obtain ⟨z1,z2,hz⟩:∃z1 z2,T.getD k (0,0)=(z1,z2):=⟨_,_,rfl⟩
    rw [hz] at hc0 hc1 hE
    simp only [za7] at hc0 hc1 hE
    rw [<-List.append_assoc] at hE
    have HE2:=ya hE
    have hwrn:¬w.heap.size=wr.heap.size:=by omega
    clear hc hE hz
    go_wp2_with fail
    refine (putM_any ab ob base A (min z1 y) out vo _ (HM.out.alloc _) hol).mono ?_
    rintro e w5 ⟨rfl,v5,hM5,hK5⟩
    have hvo:∀b,vo.ownBlock=some b->base<=b/\b<wr.heap.size:=HM.out.row.lt
    have hbox:w5.heap[wr.heap.size]?=some (.cells #[.int .i64 z1,.int .i64 z2] 129 (0,0)):=hK5.obj (zac _ rfl) (fun h=>by
     have h1:=HM.out.le
     have h2:=HM.out.lt2
     rcases h with h|h
     ·omega
     ·have:=(hvo _ h).2;omega)
    have hbxx:w5.heap[w.heap.size]?=some (.cells #[.int .i64 x,.int .i64 y] 129 (0,0)):=hK5.obj (zai _ HKB.out) (fun h=>by
     rcases h with h|h
     ·omega
     ·have:=(hvo _ h).1;omega)
    obtain ⟨k0,_,f0,_⟩:=hM5.cells
    have k1:w5.cell? ⟨wr.heap.size,1,none⟩=some (.int .i64 z2):=by rw [cell_of_row w5 _ 1 _ _ _ hbox];rfl
    have k2:w5.cell? ⟨w.heap.size,1,none⟩=some (.int .i64 y):=by rw [cell_of_row w5 _ 1 _ _ _ hbxx];rfl
    have HM5:=ya (hM5.setA (max A (min z2 y)))
    have HK5:=ya ((HK.out.alloc (.cells #[.int .i64 z1,.int .i64 z2] 129)).trans hK5 (fun b h=>by
     rcases h with h|h
     ·exact .inl (.inl h)
     ·exact .inl (.inr (.inr (hvo b h).1))))
    clear hM5 hK5 hvo hbox hbxx
    go_wp2
    go_roundw
    case rel=>exact ⟨k+1,max A (min z2 y),_,v5,by go_num,by omega,HE2,HM5,ya (HK5.out.setCell (.inl (.inr (.inl rfl))) _)⟩
    case measure=>simp [intOf];omega
   ·obtain rfl:k=n:=by omega
    have hE:=HE.out
    rw [show T.drop k=[] from by rw [HN.out];exact List.drop_length,za7] at hE
    have HE2:=ya hE
    clear hE
    go_wp2_with fail
    refine (putM_any ab ob base A y out vo _ HM.out hol).mono ?_
    rintro e w5 ⟨rfl,v5,hM5,hK5⟩
    have hvo:∀b,vo.ownBlock=some b->base<=b/\b<wr.heap.size:=HM.out.row.lt
    obtain ⟨_,k1,_,_⟩:=hM5.cells
    have HM5:=ya hM5
    have HK5:=ya (HK.out.trans hK5 (fun b h=>by
     rcases h with h|h
     ·exact .inl (.inl h)
     ·exact .inl (.inr (.inr (hvo b h).1))))
    clear hM5 hK5 hvo
    go_wp2
    go_ret
    refine ⟨v5,rfl,?_,HB3.out.trans (HK5.out.below (B:=w.heap.size) HB3.out.size (fun b h=>by omega))⟩
    rw [HVM.out,HE2.out]
    exact za5 HM5.out.row (by omega)
 ·go_wp2
  go_ret
  have hv2:zcq T (x,y)=[]:=HV.out
  exact ⟨_,rfl,by rw [hv2];exact World.ownsRow_nil _ _ _ _,HB0.out.alloc (by omega) _⟩
end Go.Proofs.YtfafdeemfeaedaaGreat
namespace Go.Proofs.YtfafdeemfeaedaaGreat
open Go.RowKit Go.Maps
def zbA (C:Nat->UInt8) (at_ n:Nat):List UInt8:=(List.range n).map fun i=>C (at_+i)
theorem zfA (C:Nat->UInt8) (at_ n:Nat):(zbA C at_ n).length=n:=by simp [zbA]
theorem bytesC_add (C:Nat->UInt8) (at_ n m:Nat):zbA C at_ (n+m)=zbA C at_ n++zbA C (at_+n) m:=by
 unfold zbA
 apply List.ext_getElem?
 intro j
 by_cases h:j<n
 ·rw [List.getElem?_append_left (by simpa using h)]
  simp [h,show j<n+m by omega]
 ·rw [List.getElem?_append_right (by simpa using h)]
  by_cases h2:j<n+m
  ·simp [h2,show j-n<m by omega,show at_+n+(j-n)=at_+j by omega]
  ·simp [h2,show ¬j-n<m by omega]
theorem zek (b:Int):∀(T:List (Int×Int)) (a:Int),(∀x∈T,0<=x.1)->a<=zbs T a/\(∀j,a<=j->j<zbs T a->cov T j)/\((∀x∈T,x.2<=b)->a<=b->zbs T a<=b)
 | [],a,_=>⟨Int.le_refl _,fun j h1 h2=>by simp only [zbs] at h2;omega,fun _ h=>h⟩
 | x::T,a,h=>by
  obtain ⟨g1,g2,g3⟩:=zek b T a (fun y hy=>h y (List.mem_cons_of_mem _ hy))
  have h0:=h x (List.mem_cons_self ..)
  simp only [zbs]
  by_cases hc:x.1<=a/\a<x.2
  ·rw [yf hc]
   refine ⟨by omega,fun j h1 h2=>?_,fun hb _=>hb x (List.mem_cons_self ..)⟩
   rw [zaK]
   exact .inl ⟨h0,by omega,h2⟩
  ·rw [yg hc]
   refine ⟨g1,fun j h1 h2=>?_,fun hb ha=>g3 (fun y hy=>hb y (List.mem_cons_of_mem _ hy)) ha⟩
   rw [zaK]
   exact .inr (g2 j h1 h2)
def ReadEnd (C:Nat->UInt8) (at_ n tot:Nat) (w:World) (e:Ending) (w':World):Prop :=
 ∃v,e=.returned (.tuple #[v,.bool (decide (at_+n=tot))])/\w'.ownsRow w.heap.size 5 1 v n ((zbA C at_ n).map u8C)/\Below w.heap.size w w'
theorem read_any {w:World} {U:Nat->Prop} {p tot N:Nat} {T:List (Int×Int)} {C:Nat->UInt8} (h:SrcQ w U p tot N T C) (hT:T.length<=100000) (at_:Nat) (hat:at_<=tot) (most:Int) (h0:0<=most) (h64:most<=9223372036854775807)
  {n:Nat} (hn:(n:Int)=min most (zbs T at_-at_)) :
  Calls Tryz.prog 55 #[.pointer (some ⟨p,0,none⟩),.int .i64 at_,.int .i64 most] w (ReadEnd C at_ n tot w):=by
 have HI:=ya (is_any h)
 have HQ:=ya h
 obtain ⟨S,v0,mb,nn,f,hs,-⟩:=h
 have HS:=ya hs
 obtain ⟨-,c1,c2,c3⟩:=hs.cells
 have HUP:=ya (upto_any (some ⟨p,2,none⟩) T at_ w hs.set.toV (by omega))
 obtain ⟨u1,u2,u3⟩:=zek tot T at_ (fun x hx=>(hs.form.full x hx).1)
 have u4:=u3 hs.in_ (by omega)
 have htb:=hs.totb
 have HCOV:=ya (fun j (hj:at_<=j) (hj2:j<at_+n)=>u2 (j:Int) (by omega) (by omega))
 obtain ⟨up,hup⟩:∃up,zbs T at_=up:=⟨_,rfl⟩
 rw [hup] at HUP hn u1 u4
 have hd1:decide ((at_:Int)<0)=false:=yd (by omega)
 have hd2:decide ((tot:Int)<at_)=false:=yd (by omega)
 have hd2n:decide (tot<at_)=false:=yd (by omega)
 have hd3:decide (most<0)=false:=yd (by omega)
 have hnt:at_+n<=tot:=by omega
 have hnn:min most (up-at_)=(n:Int):=hn.symm
 have hmk:=info_parts EByte.info
 have h5:=hn
 clear hs u2 u3 hup hn hT
 go_enter Tryz.func55,Tryz.ntmps55
 go_wp2_with (go_at_call 70;refine HI.out.mono ?_;rintro e w' ⟨rfl,rfl⟩)
 refine HUP.out.mono ?_
 rintro e w1 ⟨rfl,hb1⟩
 obtain ⟨i0,hi0,hz0,hz1,hz2⟩:=hmk
 have HZ2:=ya hz2
 clear hz2
 have HS1:=ya (HS.out.mono hb1)
 have HB1:=ya hb1
 have hw1:=hb1.size
 clear hb1 c1 c2 c3 h5
 go_wp2_with (at_make;refine wpList_make_own _ rfl (.const (.int .i64 0)) (.tmp 41) 22 rfl w1.heap.size 5 i0 (.int .u8 0) 1 Tryz.underlying22 hi0 hz0 hz1 .i64 .i64 n n rfl rfl rfl (by rw [HZ2.out];omega) (by unfold maxLen;omega) (ym _) ?_;intro w2 hO2 hg2;have HO2:=ya hO2;have HB2:=ya (zfp hg2 (ym _) (fun k hk=>by cases hk));clear hO2 hg2)
 go_loopw [9] (fun v wr=>∃(j:Nat) (a:Option Addr) (cap:Nat),v=.slice a j cap/\j<=n/\Hid (wr.ownsRow w1.heap.size 5 1 (.slice a j cap) j ((zbA C at_ j).map u8C))/\Hid (Below w1.heap.size w1 wr)) (fun v _=>match v with | .slice _ j _=>n-j|_=>0)
 case atStart=>exact ⟨0,_,n,rfl,Nat.zero_le _,ya HO2.out,HB2⟩
 case round =>
  obtain ⟨j,a,cap,rfl,hj,HO,HB⟩:=hrel
  have HSR:=ya (HS1.out.mono HB.out)
  obtain ⟨-,c1,-,c3⟩:=HSR.out.cells
  have hw2:=HB.out.size
  by_cases hlt:j<n
  ·obtain ⟨K,hK⟩:∃K,K=(at_+j) / 4096:=⟨_,rfl⟩
   obtain ⟨O,hO⟩:∃O,O=(at_+j) % 4096:=⟨_,rfl⟩
   obtain ⟨Q,hQ⟩:∃Q,Q=at_+j:=⟨_,rfl⟩
   have hsum:(at_:Int)+(j:Int)=(Q:Int):=by omega
   have hq:(Q:Int) / 4096=(K:Int):=by omega
   have hrm:(Q:Int) % 4096=(O:Int):=by omega
   have hQ1:Q<=2147483647:=by omega
   have hO1:O<4096:=by omega
   have HKI:=ya (show i64K (K:Int) from ⟨by omega,by omega⟩)
   obtain ⟨g,hg⟩:∃g,f (K:Int)=some g:=by
    have h1:=HSR.out.known (at_+j) (HCOV.out (at_+j) (by omega) (by omega))
    rw [<-hK] at h1
    cases hf:f (K:Int) with
    | none=>exact absurd hf h1
    | some g=>exact ⟨g,rfl⟩
   have HF:=ya hg
   have HG:=ya (HSR.out.mem.blk K g hg)
   obtain ⟨m,hm⟩:∃m:Nat,m=min (4096-O) (n-j):=⟨_,rfl⟩
   have hmi:min ((4096-O:Nat):Int) ((n:Int)-j)=(m:Int):=by omega
   have hml:O+m<=4096:=by omega
   have hmn:j+m<=n:=by omega
   have hm0:0<m:=by omega
   have HKO:=ya (show 4096*K+O=at_+j by omega)
   have hji:decide ((j:Int)<n)=true:=yb (by omega)
   have hjn:decide (j<n)=true:=yb hlt
   have HROW:=ya (show Row wr 1 (some ⟨g,O,none⟩) m (4096-O) ((zbA C (at_+j) m).map u8C) from
    ⟨by rw [List.length_map,zfA,Nat.mul_one],by omega,by unfold maxLen;omega,fun h=>(by cases h),fun _=>⟨g,O,rfl,(Array.getElem?_eq_some_iff.1 HG.out).1,fun i u hi=>by
     have hil:i<m:=by have:=(List.getElem?_eq_some_iff.1 hi).1;simpa [zfA] using this
     rw [cell_of_row _ _ _ _ _ _ HG.out]
     rw [List.getElem?_toArray,zfr _ (by omega)]
     rw [<-hi,List.getElem?_map]
     unfold zbA
     simp [hil]
     have:=HKO.out
     rw [show 4096*K+(O+i)=at_+j+i by omega]⟩⟩)
   have HONE:=ya (show ∀v∈(zbA C (at_+j) m).map u8C,v.oneCell'=true from fun v hv=>by
    obtain ⟨x,-,rfl⟩:=List.mem_map.1 hv;rfl)
   have HADD:=ya (show (zbA C at_ (j+m)).map u8C=(zbA C at_ j).map u8C++(zbA C (at_+j) m).map u8C by rw [bytesC_add,List.map_append])
   clear hK hO hg hm hlt hQ
   go_wp2_with (first
    |(at_lookup;refine wpList_lookF rfl (.tmp 60) (.tmp 61) rfl HSR.out.mem.map rfl rfl HKI.out HF.out ?_)
    |(at_builtin;refine zbj EByte rfl (.tmp 65) (.tmp 74) rfl w1.heap.size _ j _ rfl HO.out _ m _ _ rfl HROW.out HONE.out (by unfold maxLen;omega) (by omega) hw2 ?_;intro v' w5 hO5 hg5 hnil5;obtain ⟨a5,cap5,hv5,-⟩:=Row.of_owns hO5;subst hv5;have HO5:=ya hO5;have HB5:=ya (HB.out.grown hg5 hw2 (fun q hq=>(HO.out.lt q hq).1));clear hO5 hg5 hnil5))
   clear hsum hq hrm hmi hnn
   go_roundw
   case rel=>exact ⟨j+m,a5,cap5,rfl,hmn,ya (by rw [HADD.out];exact HO5.out),HB5⟩
   case measure =>
    show n-(j+m)<n-j
    omega
  ·obtain rfl:j=n:=by omega
   have i1:IntKind.i64.wrap ((at_:Int)+j)=(at_:Int)+j:=IntWalk.i64_in _ (by omega)
   have HBB:=ya (fun q=>HB1.out.trans ((zad HB.out q).mono hw1))
   have HOO:=ya (fun q=>za5 (zaH HO.out (zad (Below.refl _ _) q)) hw1)
   clear hnn
   go_wp2
   go_quiet (fail)
   go_wp2
   go_ret2
   refine ⟨_,?_,HOO.out _,HBB.out _⟩
   show Ending.returned (.tuple #[.slice a j cap,.bool ((at_:Int)+j==(tot:Int))])=_
   rw [show ((at_:Int)+j==(tot:Int))=decide (at_+j=tot) by
    rw [Bool.eq_iff_iff,beq_iff_eq,decide_eq_true_iff];omega]
theorem first_any {w:World} {U:Nat->Prop} {p tot N:Nat} {T:List (Int×Int)} {C:Nat->UInt8} (h:SrcQ w U p tot N T C) (hT:T.length<=100000) (at_:Int) :
  Calls Tryz.prog 38 #[.pointer (some ⟨p,0,none⟩),.int .i64 at_] w fun e w'=>e=.returned (.int .i64 (min (tot:Int) (zbs T (max 0 at_))))/\Below w.heap.size w w':=by
 have HI:=ya (is_any h)
 obtain ⟨S,v0,mb,nn,f,hs,-⟩:=h
 obtain ⟨-,c1,-,-⟩:=hs.cells
 have HUP:=ya (fun (W:World) (h:Below w.heap.size w W)=>upto_any (some ⟨p,2,none⟩) T (max 0 at_) W (hs.set.toV.mono h) (by omega))
 have hp:=hs.set.lt p hs.set.own
 obtain ⟨V,hV⟩:∃V,zbs T (max 0 at_)=V:=⟨_,rfl⟩
 obtain ⟨m,hm⟩:∃m,max 0 at_=m:=⟨_,rfl⟩
 rw [hV] at HUP |-
 rw [hm] at HUP
 clear hs hV
 go_enter Tryz.func38,Tryz.ntmps38
 go_wp2_with (go_at_call 70;refine HI.out.mono ?_;rintro e w' ⟨rfl,rfl⟩)
 go_region_held3 (fun w'=>w'.cell? ⟨p,1,none⟩=some (.int .i64 tot)) (first|assumption|exact c1|exact cell?_keep (by assumption) (by assumption))
  ((go_at_call 71;refine (HUP.out _ ?_).mono ?_;exact ((Below.refl _ _).drew);rintro e w3 ⟨rfl,hb3⟩))
 all_goals go_wp2
 all_goals go_ret
 all_goals exact ⟨rfl,(Below.refl _ _).drew.trans hb3⟩
end Go.Proofs.YtfafdeemfeaedaaGreat
namespace Go.Proofs.YtfafdeemfeaedaaGreat
open Go.RowKit Go.Sort
theorem joinS_any (ad:Addr) (n cap:Nat) (L:List (Int×Int)) (gap:Int) (w:World) (hr:SRow w (some ad) n cap L) (hf:Fit L) (hn:n<=1000000) (hg1:gap<=9223372036854775807) :
  Calls Tryz.prog 138 #[.slice (some ad) n cap,.int .i64 gap] w (JoinEnd gap L w):=by
 have hcl:=cloneS (some ad) n cap (spV L) w hr (zbh L) (by omega)
 have HC:=ya hcl
 have HF:=ya hf
 have hLn:=hr.len
 have HLN:=ya hLn
 clear hcl hf hr hLn
 go_enter Tryz.func138,Tryz.ntmps138
 go_wp2_with fail
 refine HC.out.mono ?_
 rintro e w1 ⟨v,rfl,hO1,hb1,hnn⟩
 obtain ⟨a1,c1,rfl,hr1,hbl1⟩:=Row.of_owns hO1
 have ha1:a1≠none:=fun e=>by subst e;have hc:=hr1.2.2.2.1 rfl;have h0:n=0:=(by have:=hr1.2.1;omega);subst hc h0;exact hnn (by simp) rfl
 obtain ⟨x1,rfl⟩:=Option.ne_none_iff_exists'.1 ha1
 obtain ⟨g,rfl⟩:∃g,x1=⟨g,0,none⟩:=by
  rcases hO1.2 with ⟨h3,_⟩|⟨g,cp,cur,h3,_⟩
  ·cases h3
  ·simp only [Value.slice.injEq,Option.some.injEq] at h3;exact ⟨g,h3.1⟩
 have hgw:w.heap.size<=g:=(hO1.lt g rfl).1
 have hgl1:=(hO1.lt g rfl).2
 have HB1:=ya hb1
 have hsz1:=hb1.size
 have HO1:=ya hO1
 clear hO1 hr1 hbl1 ha1 hb1 hnn
 go_wp2_with fail
 refine (delete_any _ g n c1 L w1 HO1.out).mono ?_
 rintro e w2 ⟨k,rfl,hO2,hK2⟩
 have hk:k=(full L).length:=by have:=hO2.1;rw [zbJ] at this;omega
 have hkn:k<=n:=by rw [hk,<-HLN.out];exact List.length_filter_le _ _
 have HB2:=ya (HB1.out.trans (hK2.below (B:=w.heap.size) hsz1 (fun b hb=>by omega)))
 have HO2:=ya hO2
 have hs2:=hK2.size
 clear hO2 hK2 hk
 go_wp2_with fail
 refine (sort_any _ g k c1 (full L) w2 HO2.out (by omega)).mono ?_
 rintro e w3 ⟨rfl,S,hP,hS,hO3,hg3⟩
 have hSm:=full_mem hP HF.out
 have hsr:=zgF hO3
 have hSl:=hsr.len
 have HB3:=ya (HB2.out.grown hg3 HB2.out.size (fun q hq=>by cases hq;exact hgw))
 have HSR:=ya hsr
 have HP:=ya hP
 have HS:=ya hS
 have HSM:=ya hSm
 have HSL:=ya hSl
 have hs3:=hg3.size
 have hgl3:=(hO3.lt g rfl).2
 clear hO3 hg3 hSm hsr hP hS hSl
 go_wp2
 obtain ⟨gm,hgm⟩:∃gm,gm=max 0 gap:=⟨_,rfl⟩
 have hgm0:0<=gm:=by omega
 have hgm1:gm<=9223372036854775807:=by omega
 have HGM:=ya hgm
 rw [show max 0 gap=gm from hgm.symm]
 clear hgm
 go_loopw [6,19] (fun vo vi wr=>∃(j:Nat) (out:List (Int×Int)),vi=.int .i64 j/\j<=k/\out.length<=j/\Hid (JoinAt gm S j out)/\Hid (wr.ownsRow w3.heap.size 129 2 vo out.length (spV out))/\Hid (Below w3.heap.size w3 wr)) (fun _ vi _=>k-(intOf vi).toNat)
 case atStart=>exact ⟨0,[],rfl,Nat.zero_le _,ym _,ya (.inl ⟨rfl,rfl⟩),ya (World.ownsRow_nil _ _ _ _),ya (Below.refl _ _)⟩
 case round =>
  obtain ⟨j,out,rfl,hjk,hoj,HJ,HO,HB⟩:=hrel
  have hsw:=HB.out.size
  by_cases hlt:j<k
  ·obtain ⟨b9,o9,hb9,_,hc9⟩:=SRow.at (HSR.out.mono HB.out) j hlt
   simp only [Option.some.injEq,Addr.mk.injEq] at hb9
   obtain ⟨rfl,rfl,_⟩:=hb9
   obtain ⟨hc0,hc1⟩:=hc9 j hlt
   have hjS:j<S.length:=by rw [HSL.out];exact hlt
   obtain ⟨x,y,hxy⟩:∃x y,S.getD j (0,0)=(x,y):=⟨_,_,rfl⟩
   obtain ⟨m0,m1,m2⟩:=HSM.out (S.getD j (0,0)) (by simp [List.getD,hjS])
   rw [hxy] at hc0 hc1 m0 m1 m2
   simp only [Nat.zero_add] at hc0 hc1 m0 m1 m2
   have HXY:=ya hxy
   have HOA:=ya (HO.out.alloc (.cells #[.int .i64 x,.int .i64 y] 129))
   clear hc9 hxy
   rcases HJ.out with ⟨hj0,rfl⟩|⟨front,f,b,n0,n1,n2,rfl,hjoin⟩
   ·obtain ⟨aO,cO,rfl,_,_⟩:=Row.of_owns HO.out
    have HJ0:=ya hj0
    clear hj0
    have hd0:decide ((0:Int)<0)=false:=rfl
    go_wp2
    go_quiet (fail)
    have hO2:((wr.alloc (.cells #[.int .i64 x,.int .i64 y] 129)).drewN nq).ownsRow w3.heap.size 129 2 (.slice aO 0 cO) 0 (spV []):=zaH HOA.out (zad (Below.refl _ _) nq)
    have k0:((wr.alloc (.cells #[.int .i64 x,.int .i64 y] 129)).drewN nq).cell? ⟨wr.heap.size,0,none⟩=some (.int .i64 x):=(cell_of_row (wr.alloc _) wr.heap.size 0 _ _ _ (zac (w:=wr) _ rfl)).trans rfl
    have k1:((wr.alloc (.cells #[.int .i64 x,.int .i64 y] 129)).drewN nq).cell? ⟨wr.heap.size,1,none⟩=some (.int .i64 y):=(cell_of_row (wr.alloc _) wr.heap.size 1 _ _ _ (zac (w:=wr) _ rfl)).trans rfl
    have hBW:Below w3.heap.size w3 ((wr.alloc (.cells #[.int .i64 x,.int .i64 y] 129)).drewN nq):=zad (HB.out.alloc (by omega) _) nq
    have hszW:=hBW.size
    generalize (wr.alloc (.cells #[.int .i64 x,.int .i64 y] 129)).drewN nq=W at *
    have HO2:=ya hO2
    have HBW:=ya hBW
    clear hO2 hBW
    go_wp2_with (at_builtin;refine zbj ETS rfl (.tmp 54) (.tmp 56) rfl w3.heap.size _ 0 _ rfl (HO2.out.alloc _) _ 1 _ _ rfl (zgy _ _ _ _) (zbh [(x,y)]) (by unfold maxLen;omega) (by omega) (by rw [zan];omega) ?_;intro v' w5 hO5 hg5 hnil5;have HO5:=ya hO5;have HG5:=ya hg5;clear hO5 hg5 hnil5)
    go_roundw
    case rel =>
     refine ⟨j+1,[(x,y)],by go_num,by omega,by simp,?_,HO5,?_⟩
     ·rw [HJ0.out];exact ya (joinAt_first (by omega) (by rw [<-HJ0.out];exact HXY.out) m0 m1 m2)
     ·exact ya ((HBW.out.alloc hszW _).grown HG5.out (by rw [zan];omega) (fun q hq=>(HO2.out.lt q hq).1))
    case measure=>simp [intOf];omega
   ·obtain ⟨gO,cO,rfl,hgO⟩:=own_shape HO.out (by simp)
    obtain ⟨q,hq⟩:∃q,q=front.length:=⟨_,rfl⟩
    have hql:(front++[(f,b)]).length=q+1:=by rw [hq];simp
    rw [hql] at hoj HO HOA |-
    have hcell:=zcx HOA.out q (by omega)
    have hlast:(front++[(f,b)]).getD q (0,0)=(f,b):=by rw [hq];exact last_get _ _
    rw [hlast] at hcell
    obtain ⟨_,d1⟩:=hcell
    simp only at d1
    have fr1:=zc9 HOA.out (q*2+1)
    have c0:(wr.alloc (.cells #[.int .i64 x,.int .i64 y] 129)).cell? ⟨wr.heap.size,0,none⟩=some (.int .i64 x):=(cell_of_row (wr.alloc _) wr.heap.size 0 _ _ _ (zac (w:=wr) _ rfl)).trans rfl
    have c1:(wr.alloc (.cells #[.int .i64 x,.int .i64 y] 129)).cell? ⟨wr.heap.size,1,none⟩=some (.int .i64 y):=(cell_of_row (wr.alloc _) wr.heap.size 1 _ _ _ (zac (w:=wr) _ rfl)).trans rfl
    have hgOw:gO<wr.heap.size:=(HO.out.lt gO rfl).2
    have hszA:=zan wr (.cells #[.int .i64 x,.int .i64 y] 129)
    have HBA:=ya (HB.out.alloc (by omega) (.cells #[.int .i64 x,.int .i64 y] 129))
    have HQ:=ya hq
    have HJN:=ya hjoin
    have HLAST:=ya hlast
    have hd0:decide ((0:Int)<(q:Int)+1)=true:=by rw [decide_eq_true_iff];omega
    have hix:(q:Int)+1-1=(q:Int):=by omega
    have hov:-9223372036854775808<=x-b:=by omega
    have hov2:x-b<=9223372036854775807:=by omega
    clear hq hjoin hlast hql
    by_cases hc:x-b<=gm
    ·have hcd:decide (x-b<=gm)=true:=by simpa using hc
     go_wp2
     go_quiet (fail)
     have hO2:((wr.alloc (.cells #[.int .i64 x,.int .i64 y] 129)).drewN nq).ownsRow w3.heap.size 129 2 (.slice (some ⟨gO,0,none⟩) (q+1) cO) (q+1) (spV (front++[(f,b)])):=zaH HOA.out (zad (Below.refl _ _) nq)
     have k0:((wr.alloc (.cells #[.int .i64 x,.int .i64 y] 129)).drewN nq).cell? ⟨wr.heap.size,0,none⟩=some (.int .i64 x):=(cell_of_row (wr.alloc _) wr.heap.size 0 _ _ _ (zac (w:=wr) _ rfl)).trans rfl
     have k1:((wr.alloc (.cells #[.int .i64 x,.int .i64 y] 129)).drewN nq).cell? ⟨wr.heap.size,1,none⟩=some (.int .i64 y):=(cell_of_row (wr.alloc _) wr.heap.size 1 _ _ _ (zac (w:=wr) _ rfl)).trans rfl
     have hBW:Below w3.heap.size w3 ((wr.alloc (.cells #[.int .i64 x,.int .i64 y] 129)).drewN nq):=zad (HB.out.alloc (by omega) _) nq
     have hszW:=hBW.size
     generalize (wr.alloc (.cells #[.int .i64 x,.int .i64 y] 129)).drewN nq=W at *
     have HO2:=ya hO2
     have HBW:=ya hBW
     clear hO2 hBW
     have hcell2:=zcx HO2.out q (by omega)
     rw [HLAST.out] at hcell2
     have e1:=hcell2.2
     have fr2:=zc9 HO2.out (q*2+1)
     simp only at e1
     have hmx:(if b<y then y else b)=max b y:=by omega
     have HMX:=ya hmx
     have hql1:(q:Int)<(q:Int)+1:=by omega
     have hwr1:IntKind.i64.wrap (q:Int)=(q:Int):=IntWalk.i64_in _ (by omega)
     clear hcell2 hmx d1 fr1 c0 c1
     go_wp2
     refine wp_region_still_tail 14 (by kernel_rfl) (by kernel_rfl) ?_
     simp only [List.take_succ_cons,List.take_zero,List.drop_succ_cons,List.drop_zero]
     repeat still_step
     refine wpStill_nil ?_
     change wpList _ _ _ _ _ (W.drewN 1)
     go_wp2
     go_roundw
     case rel =>
      refine ⟨j+1,front++[(f,max b y)],by go_num,by omega,by have:=HQ.out;simp;omega,ya (joinAt_mrg hjS HXY.out n0 n1 n2 m2 hc HJN.out),ya ?_,?_⟩
      ·have h5:=zgu (zaH HO2.out (zad (Below.refl _ _) 1)) (q*2+1) (.int .i64 (max b y))
       rw [spV_set2 _ q f b (max b y) HLAST.out,show (front++[(f,b)]).set q (f,max b y)=front++[(f,max b y)] from by rw [HQ.out,last_set]] at h5
       rw [show (front++[(f,max b y)]).length=q+1 from by rw [HQ.out];simp]
       exact h5
      ·exact ya ((zad HBW.out 1).setCell hgO _)
     case measure=>simp [intOf];omega
    ·have hcd:decide (x-b<=gm)=false:=by simpa using hc
     go_wp2
     go_quiet (fail)
     have hO2:((wr.alloc (.cells #[.int .i64 x,.int .i64 y] 129)).drewN nq).ownsRow w3.heap.size 129 2 (.slice (some ⟨gO,0,none⟩) (q+1) cO) (q+1) (spV (front++[(f,b)])):=zaH HOA.out (zad (Below.refl _ _) nq)
     have k0:((wr.alloc (.cells #[.int .i64 x,.int .i64 y] 129)).drewN nq).cell? ⟨wr.heap.size,0,none⟩=some (.int .i64 x):=(cell_of_row (wr.alloc _) wr.heap.size 0 _ _ _ (zac (w:=wr) _ rfl)).trans rfl
     have k1:((wr.alloc (.cells #[.int .i64 x,.int .i64 y] 129)).drewN nq).cell? ⟨wr.heap.size,1,none⟩=some (.int .i64 y):=(cell_of_row (wr.alloc _) wr.heap.size 1 _ _ _ (zac (w:=wr) _ rfl)).trans rfl
     have hBW:Below w3.heap.size w3 ((wr.alloc (.cells #[.int .i64 x,.int .i64 y] 129)).drewN nq):=zad (HB.out.alloc (by omega) _) nq
     have hszW:=hBW.size
     generalize (wr.alloc (.cells #[.int .i64 x,.int .i64 y] 129)).drewN nq=W at *
     have HO2:=ya hO2
     have HBW:=ya hBW
     clear hO2 hBW
     go_wp2_with (at_builtin;refine zbj ETS rfl (.tmp 54) (.tmp 56) rfl w3.heap.size _ (q+1) _ rfl (HO2.out.alloc _) _ 1 _ _ rfl (zgy _ _ _ _) (zbh [(x,y)]) (by unfold maxLen;omega) (by omega) (by rw [zan];omega) ?_;intro v' w5 hO5 hg5 hnil5;have HO5:=ya hO5;have HG5:=ya hg5;clear hO5 hg5 hnil5)
     go_roundw
     case rel =>
      refine ⟨j+1,front++[(f,b)]++[(x,y)],by go_num,by omega,by have:=HQ.out;simp;omega,ya (joinAt_app hjS HXY.out m0 m1 m2 (by omega) HJN.out),ya ?_,?_⟩
      ·have h5:=HO5.out
       rw [show spV (front++[(f,b)]++[(x,y)])=spV (front++[(f,b)])++spV [(x,y)] from zcJ _ _,show (front++[(f,b)]++[(x,y)]).length=q+1+1 from by rw [HQ.out];simp]
       exact h5
      ·exact ya ((HBW.out.alloc hszW _).grown HG5.out (by rw [zan];omega) (fun q hq=>(HO2.out.lt q hq).1))
     case measure=>simp [intOf];omega
  ·obtain rfl:j=k:=by omega
   have HJE:=ya (joinAt_end (by rw [HSL.out];exact HJ.out))
   go_wp2
   go_ret
   refine ⟨S,_,HP.out,HS.out,rfl,?_,?_⟩
   ·rw [<-HGM.out,<-HJE.out];exact za5 HO.out (by have:=HB3.out.size;omega)
   ·exact HB3.out.trans (HB.out.mono HB3.out.size)
theorem sort_nil (fv:Value) (w:World):Calls Tryz.prog 167 #[.slice none 0 0,fv] w fun e w'=>e=.returned (.tuple #[])/\w'=w:=AnyF.slices_SortFunc_none Tryz.sortSpan none 0 fv w
theorem clone_nilS (w:World):Calls Tryz.prog 141 #[.slice none 0 0] w fun e w'=>e=.returned (.slice none 0 0)/\w=w':=by
 have hnil:=fun W:World=>Lib.run_eql_slice_nil (P:=Tryz.prog) W 50 129 none 0 0 0 0 Tryz.underlying50
 go_enter Tryz.func141,Tryz.ntmps141
 go_wp2
 go_ret
 exact ⟨rfl,rfl⟩
theorem joinS_nil (gap:Int) (w:World) (_hg1:gap<=9223372036854775807):Calls Tryz.prog 138 #[.slice none 0 0,.int .i64 gap] w (JoinEnd gap [] w):=by
 go_enter Tryz.func138,Tryz.ntmps138
 go_wp2_with fail
 refine (clone_nilS _).mono ?_
 rintro e w1 ⟨rfl,rfl⟩
 go_wp2_with fail
 refine (delete_nil _).mono ?_
 rintro e w2 ⟨rfl,hb⟩
 have HB:=ya hb
 clear hb
 go_wp2_with fail
 refine (sort_nil _ _).mono ?_
 rintro e w3 ⟨rfl,rfl⟩
 go_wp2
 refine wp_loop_once ?_
 go_wp2
 go_ret
 exact ⟨[],_,List.Perm.refl _,List.Pairwise.nil,rfl,World.ownsRow_nil _ _ _ _,HB.out⟩
theorem join_any (a:Option Addr) (n cap:Nat) (L:List (Int×Int)) (gap:Int) (w:World) (hr:SRow w a n cap L) (hf:Fit L) (hn:n<=1000000) (hg1:gap<=9223372036854775807) :
  Calls Tryz.prog 138 #[.slice a n cap,.int .i64 gap] w (JoinEnd gap L w):=by
 cases a with
 | some ad=>exact joinS_any ad n cap L gap w hr hf hn hg1
 | none =>
  have hl:=SRow.len hr
  obtain ⟨h1,h2,h3,h4,h5⟩:=hr
  obtain rfl:=h4 rfl
  obtain rfl:n=0:=by omega
  have:L=[]:=List.eq_nil_of_length_eq_zero hl
  subst this
  exact joinS_nil gap w hg1
def SetNextG (w:World) (S:Nat->Prop) (p o:Nat) (cs:Array Value) (ty:TypeId) (T:List (Int×Int)) (w':World):Prop:=∃S' v,zbR w' S' p o (cs.setIfInBounds o v) ty T v/\zae S w w'/\∀b,S' b->S b\/w.heap.size<=b
def PutS (T:List (Int×Int)) (x:Int×Int) (T':List (Int×Int)):Prop:=∃S:List (Int×Int),S.Perm (full (T++[x]))/\S.Pairwise (fun x y=>x.1<=y.1)/\T'=zbN 0 S
def zgb (w:World) (S:Nat->Prop) (p o:Nat) (cs:Array Value) (ty:TypeId) (T:List (Int×Int)) (x:Int×Int) (e:Ending) (w':World):Prop:=e=.returned (.tuple #[])/\∃T',PutS T x T'/\SetNextG w S p o cs ty T' w'
theorem put_endG {w W w5 w6:World} {S:Nat->Prop} {p o g cap c6:Nat} {cs:Array Value} {ty:TypeId} {T R:List (Int×Int)} {x:Int×Int} {v:Value} {a6:Option Addr} {C D:Obj} {xs:List Value} {n:Nat} (hw:zbR w S p o cs ty T v) (hWW:w.alloc C=W)
  (h5:w5.ownsRow 0 129 2 (.slice (some ⟨g,0,none⟩) n cap) n xs/\(W.alloc D).drew.grownBy w5 v.ownBlock/\(v.ownBlock=some g\/g=(W.alloc D).drew.heap.size)/\g<w5.heap.size)
  (h6:R.Perm (full (T++[x]))/\R.Pairwise (fun x y=>x.1<=y.1)/\w6.ownsRow w5.heap.size 129 2 (.slice a6 (zbN (max 0 0) R).length c6) (zbN (max 0 0) R).length (spV (zbN (max 0 0) R))/\Below w5.heap.size w5 w6/\w6.heap[p]?=some (.cells cs ty (0,0))) :
  zgb w S p o cs ty T x (.returned (.tuple #[])) (w6.setCell ⟨p,o,none⟩ (.slice a6 (zbN 0 R).length c6)):=by
 obtain ⟨_,hg5,_,_⟩:=h5
 obtain ⟨hP,hS,hO6,hB6,hblk6⟩:=h6
 rw [Int.max_self] at hO6
 subst hWW
 have hp:=hw.lt p hw.own
 have hsz:w.heap.size<=w5.heap.size:=by
  have h1:=hg5.size
  have h2:((w.alloc C).alloc D).drew.heap.size=w.heap.size+1+1:=by show ((w.alloc C).alloc D).heap.size=_;rw [zan,zan]
  omega
 have hk5:zae S w w5:=(((zae.refl S w).alloc C).alloc D).drewN 1 |>.grown hg5 (fun k hk=>.inl (hw.at_ k hk).1)
 have hk6:zae S w w6:=hk5.trans (zae.of_below (S:=fun b=>w5.heap.size<=b) hB6 (fun b h=>h)) (fun b h=>.inr (by omega))
 have hs6:=hB6.size
 have hoc:o<cs.size:=(Array.getElem?_eq_some_iff.1 hw.cel).1
 refine ⟨rfl,zbN 0 R,⟨R,hP,hS,rfl⟩,fun b=>S b\/(w5.heap.size<=b/\b<w6.heap.size),.slice a6 (zbN 0 R).length c6,⟨?_,?_,?_,fun b hb=>?_,.inl hw.own,fun b hb=>?_⟩,hk6.setCell (.inl hw.own) _,fun b hb=>?_⟩
 ·exact heap_setCell_same w6 p o _ _ _ hblk6
 ·simp [hoc]
 ·exact za5 (ownsRow_setCell_other hO6 (a:=⟨p,o,none⟩) (fun e=>by have:=(hO6.lt p e).1;omega) _) (Nat.zero_le _)
 ·have:=hO6.lt b hb
  exact ⟨.inr this,by omega⟩
 ·have hs7:(w6.setCell ⟨p,o,none⟩ (.slice a6 (zbN 0 R).length c6)).heap.size=w6.heap.size:=by simp [World.setCell]
  rw [hs7]
  rcases hb with hb|hb
  ·have:=hw.lt b hb;omega
  ·exact hb.2
 ·rcases hb with hb|hb
  ·exact .inl hb
  ·exact .inr (by omega)
theorem put_anyG (p o:Nat) (S:Nat->Prop) (cs:Array Value) (ty:TypeId) (v:Value) (T:List (Int×Int)) (x y:Int) (w:World) (hw:zbR w S p o cs ty T v) (hf:Fit (T++[(x,y)])) (hn:T.length<=100000) :
  Calls Tryz.prog 98 #[.pointer (some ⟨p,o,none⟩),.agg #[.int .i64 x,.int .i64 y]] w (zgb w S p o cs ty T (x,y)):=by
 obtain ⟨a,c,rfl,hr,_⟩:=Row.of_owns hw.row
 have hp:=hw.lt p hw.own
 have hbW:(w.alloc (.cells #[.int .i64 x,.int .i64 y] 129)).heap[p]?=some (.cells cs ty (0,0)):=zai _ hw.blk
 have hOW:=hw.row.alloc (.cells #[.int .i64 x,.int .i64 y] 129)
 have hbx:(w.alloc (.cells #[.int .i64 x,.int .i64 y] 129)).heap[w.heap.size]?=some (.cells #[.int .i64 x,.int .i64 y] 129 (0,0)):=zac _ rfl
 have hszW:=zan w (.cells #[.int .i64 x,.int .i64 y] 129)
 have HW:=ya hw
 have HF:=ya hf
 clear hw hr hf
 go_enter Tryz.func98,Tryz.ntmps98
 go_wp2
 generalize hWW:w.alloc (.cells #[.int .i64 x,.int .i64 y] 129)=W at *
 have HWW:=ya hWW
 have k0:W.cell? ⟨p,o,none⟩=some (.slice a T.length c):=by rw [cell_of_row W p o _ _ _ hbW];exact HW.out.cel
 have kf:W.frozen? ⟨p,o,none⟩=false:=frozen_of_row W p o _ _ hbW
 have b0:W.cell? ⟨w.heap.size,0,none⟩=some (.int .i64 x):=by rw [cell_of_row W _ 0 _ _ _ hbx];rfl
 have b1:W.cell? ⟨w.heap.size,1,none⟩=some (.int .i64 y):=by rw [cell_of_row W _ 1 _ _ _ hbx];rfl
 have HOW:=ya hOW
 have HBW:=ya hbW
 have HSZ:=ya hszW
 have hpW:p<W.heap.size:=by have:=HSZ.out;omega
 have hpn:¬p=W.heap.size:=by omega
 obtain ⟨i0,hi,hz0,hz1,hz2⟩:=info_parts ETS.info
 clear hWW hOW hbW hbx hszW
 go_region_law (first
  |(refine step_append_lies _ rfl (.tmp 10) (.tmp 12) 50 rfl 0 129 i0 (.agg #[.int .i64 0,.int .i64 0]) 2 16 Tryz.underlying50 hi hz0 hz1 hz2 rfl (by decide) (.slice a T.length c) T.length (spV T) (by simp [Act.eval]) (by exact HOW.out.alloc _) ⟨W.heap.size,0,none⟩ 1 1 [.int .i64 x,.int .i64 y] (by simp [Act.eval]) rfl (by exact World.news_of_block (zac (w:=W) _ rfl)) (zbh [(x,y)]) (by omega) (by unfold maxLen;omega) (by omega) (Nat.zero_le _) _ rfl ?_;intro g cap w5 hO5 hg5 hg6 hg7)
  |(go_simp;go_at_call 138;refine (join_any (some ⟨g,0,none⟩) (T.length+1) cap (T++[(x,y)]) 0 _ (by show Row _ _ _ _ _ (spV (T++[(x,y)]));rw [zcJ];exact (Row.of_own hO5).2) HF.out (by omega) (by omega)).mono ?_;rintro e w6 ⟨R,v6,hP6,hS6,rfl,hO6,hB6⟩;obtain ⟨a6,c6,rfl,_,_⟩:=Row.of_owns hO6;have blk6:=zaa hB6 ((hg5.block p (by show p<(W.alloc _).heap.size;rw [zan];have:=HSZ.out;omega) (fun e=>(HW.out.at_ p e.symm).2 rfl)).trans ((Below.heap_alloc W _ p (by have:=HSZ.out;omega)).trans HBW.out));have k6:=(cell_of_row w6 p o _ _ _ blk6).trans HW.out.cel;have f6:=frozen_of_row w6 p o _ _ blk6;have H5:=ya (And.intro hO5 (And.intro hg5 (And.intro hg6 hg7)));have H6:=ya (And.intro hP6 (And.intro hS6 (And.intro hO6 (And.intro hB6 blk6))));clear hO5 hg5 hg6 hg7 hP6 hS6 hO6 hB6 blk6))
 all_goals go_end0
 all_goals exact put_endG HW.out HWW.out H5.out H6.out
def SetQ (w:World) (S:Nat->Prop) (p:Nat) (T:List (Int×Int)):Prop:=∃v,zbR w S p 0 #[v] 143 T v
theorem SetQ.keeps {w w':World} {S U:Nat->Prop} {p:Nat} {T:List (Int×Int)} (h:SetQ w S p T) (hk:zae U w w') (hU:∀b,S b->¬U b):SetQ w' S p T:=by
 obtain ⟨v,hw⟩:=h
 exact ⟨v,hw.keeps hk hU⟩
theorem SetQ.mono {w w':World} {S:Nat->Prop} {p:Nat} {T:List (Int×Int)} (h:SetQ w S p T) (hb:Below w.heap.size w w'):SetQ w' S p T:=by
 obtain ⟨v,hw⟩:=h
 exact ⟨v,hw.mono hb⟩
theorem SetQ.lt {w:World} {S:Nat->Prop} {p:Nat} {T:List (Int×Int)} (h:SetQ w S p T):∀b,S b->b<w.heap.size:=by
 obtain ⟨v,hw⟩:=h
 exact hw.lt
theorem SetQ.toV {w:World} {S:Nat->Prop} {p:Nat} {T:List (Int×Int)} (h:SetQ w S p T):SetV w (some ⟨p,0,none⟩) T:=by
 obtain ⟨v,hw⟩:=h
 exact hw.toV
theorem ze3 {T T':List (Int×Int)} {x:Int×Int} (h:PutS T x T'):Form T'/\∀k,cov T' k↔cov T k\/cov [x] k:=by
 obtain ⟨S,hp,hs,rfl⟩:=h
 obtain ⟨h1,h2⟩:=join_form (fun y hy=>by
  have h1:=List.mem_filter.1 (hp.mem_iff.1 hy)
  exact zbo.1 (by simpa using h1.2)) hs
 exact ⟨h1,fun k=>by rw [h2 k,cov_perm hp k,full,cov_filter,zfG]⟩
theorem zgn:∀ {T:List (Int×Int)} (_:Form T) (a:Int),(cov T a->a<zbs T a/\(∀j,a<=j->j<zbs T a->cov T j)/\¬cov T (zbs T a))/\(¬cov T a->zbs T a=a)
 | [],_,a=>⟨fun h=>absurd h (zbE a),fun _=>rfl⟩
 |(f,b)::T,h,a=>by
  have hf:=h.full _ (List.mem_cons_self ..)
  simp only at hf
  have hp:=(List.pairwise_cons.1 h.apart).1
  have he:=form_end h
  obtain ⟨i1,i2⟩:=zgn h.tail a
  simp only [zbs]
  by_cases hc:f<=a/\a<b
  ·rw [yf hc]
   refine ⟨fun _=>⟨hc.2,fun j h1 h2=>(zaK _ _ _).2 (.inl ⟨hf.1,by simp only;omega,h2⟩),he⟩,fun hn=>absurd ((zaK _ _ _).2 (.inl ⟨hf.1,hc.1,hc.2⟩)) hn⟩
  ·rw [yg hc]
   have hcc:cov ((f,b)::T) a↔cov T a:=by
    rw [zaK]
    exact ⟨fun h=>h.elim (fun h=>absurd ⟨h.2.1,h.2.2⟩ hc) id,.inr⟩
   rw [hcc]
   refine ⟨fun hca=>?_,i2⟩
   obtain ⟨j1,j2,j3⟩:=i1 hca
   refine ⟨j1,fun j h1 h2=>(zaK _ _ _).2 (.inr (j2 j h1 h2)),fun hcu=>?_⟩
   rcases (zaK _ _ _).1 hcu with h1|h1
   ·obtain ⟨x,hx,k0,k1,k2⟩:=hca
    have:=hp x hx
    simp only at h1 this
    omega
   ·exact j3 h1
theorem has_iff {T:List (Int×Int)} (h:Form T) {x:Int×Int} (he:emp x=false):hasS T x=true↔∀j,x.1<=j->j<x.2->cov T j:=by
 obtain ⟨e0,e1⟩:=zbo.1 he
 obtain ⟨i1,i2⟩:=zgn h x.1
 unfold hasS
 rw [he,Bool.false_or,decide_eq_true_iff]
 by_cases hc:cov T x.1
 ·obtain ⟨j1,j2,j3⟩:=i1 hc
  constructor
  ·exact fun hle j a b=>j2 j a (by omega)
  ·intro hall
   by_cases hlt:zbs T x.1<x.2
   ·exact absurd (hall _ (by omega) hlt) j3
   ·omega
 ·rw [i2 hc]
  exact ⟨fun hle=>by omega,fun hall=>absurd (hall x.1 (Int.le_refl _) e1) hc⟩
theorem zcZ (tto:Int):∀ {L:List (Int×Int)} (_:Form L) (A:Int),0<=A ->
  (∀z∈za7 tto A L,A<=z.1/\z.1<z.2/\z.2<=tto)/\(za7 tto A L).Pairwise (fun z z'=>z.2<=z'.1)/\∀j,cov (za7 tto A L) j↔A<=j/\j<tto/\¬cov L j
 | [],_,A,hA=>by
  simp only [za7]
  split
  ·rename_i h
   refine ⟨fun z hz=>(by simp at hz;subst hz;simp only;omega),by simp,fun j=>?_⟩
   rw [zaK]
   have h1:=zbE j
   constructor
   ·rintro (⟨_,h2,h3⟩|h2)
    ·exact ⟨h2,h3,h1⟩
    ·exact absurd h2 h1
   ·rintro ⟨h2,h3,_⟩;exact .inl ⟨hA,h2,h3⟩
  ·rename_i h
   refine ⟨fun z hz=>(by cases hz),List.Pairwise.nil,fun j=>⟨fun h2=>absurd h2 (zbE j),fun h2=>by omega⟩⟩
 |(f,b)::L,h,A,hA=>by
  have hf:=h.full _ (List.mem_cons_self ..)
  simp only at hf
  have hp:=(List.pairwise_cons.1 h.apart).1
  obtain ⟨i1,i2,i3⟩:=zcZ tto h.tail (max A (min b tto)) (by omega)
  have hlow:∀j,cov L j->b<j:=fun j hc=>by
   obtain ⟨x,hx,k0,k1,k2⟩:=hc
   have:=hp x hx
   simp only at this
   omega
  have key:∀j,(A<=j/\j<min f tto)\/cov (za7 tto (max A (min b tto)) L) j↔A<=j/\j<tto/\¬cov ((f,b)::L) j:=by
   intro j
   rw [i3 j,zaK]
   have hl:=hlow j
   constructor
   ·rintro (⟨h1,h2⟩|⟨h1,h2,h3⟩)
    ·refine ⟨h1,by omega,fun hc=>?_⟩
     rcases hc with hc|hc
     ·simp only at hc;omega
     ·have:=hl hc;omega
    ·refine ⟨by omega,h2,fun hc=>?_⟩
     rcases hc with hc|hc
     ·simp only at hc;omega
     ·exact h3 hc
   ·rintro ⟨h1,h2,h3⟩
    by_cases hj:j<f
    ·exact .inl ⟨h1,by omega⟩
    ·have hjb:b<=j:=by
      by_cases hb:j<b
      ·exact absurd (Or.inl ⟨hf.1,by simp only;omega,hb⟩) h3
      ·omega
     exact .inr ⟨by omega,h2,fun hc=>h3 (.inr hc)⟩
  simp only [za7]
  by_cases hc:A<min f tto
  ·rw [yf hc]
   refine ⟨fun z hz=>?_,?_,fun j=>?_⟩
   ·rcases List.mem_append.1 hz with h1|h1
    ·simp at h1;subst h1;simp only;omega
    ·have:=i1 z h1;omega
   ·rw [List.pairwise_append]
    refine ⟨by simp,i2,fun z hz z' hz'=>?_⟩
    simp at hz
    subst hz
    have:=i1 z' hz'
    simp only;omega
   ·rw [zfG,<-key j]
    have h1:=zbE j
    rw [zaK]
    constructor
    ·rintro ((⟨_,h2,h3⟩|h2)|h2)
     ·exact .inl ⟨h2,h3⟩
     ·exact absurd h2 h1
     ·exact .inr h2
    ·rintro (⟨h2,h3⟩|h2)
     ·exact .inl (.inl ⟨hA,h2,h3⟩)
     ·exact .inr h2
  ·rw [yg hc,List.nil_append]
   refine ⟨fun z hz=>by have:=i1 z hz;omega,i2,fun j=>?_⟩
   rw [<-key j]
   exact ⟨.inr,fun h=>h.elim (fun h=>by omega) id⟩
theorem missS_spec {T:List (Int×Int)} (h:Form T) (x:Int×Int):(∀z∈zcq T x,emp x=false/\emp z=false/\x.1<=z.1/\z.1<z.2/\z.2<=x.2)/\(zcq T x).Pairwise (fun z z'=>z.2<=z'.1)/\(∀z∈zcq T x,¬cov T z.1) /\
  (emp x=false->∀j,x.1<=j->j<x.2->cov T j\/cov (zcq T x) j):=by
 unfold zcq
 cases he:emp x with
 | true=>simp
 | false =>
  obtain ⟨e0,e1⟩:=zbo.1 he
  simp only [Bool.false_eq_true,if_false]
  obtain ⟨i1,i2,i3⟩:=zcZ x.2 h x.1 e0
  refine ⟨fun z hz=>?_,i2,fun z hz=>?_,fun _ j h1 h2=>?_⟩
  ·have:=i1 z hz
   exact ⟨trivial,zbo.2 ⟨by omega,this.2.1⟩,this.1,this.2.1,this.2.2⟩
  ·have h1:=i1 z hz
   exact ((i3 z.1).1 ⟨z,hz,by omega,Int.le_refl _,h1.2.1⟩).2.2
  ·by_cases hc:cov T j
   ·exact .inl hc
   ·exact .inr ((i3 j).2 ⟨h1,h2,hc⟩)
theorem tl_len (gap:Int):∀(r:List (Int×Int)) (b:Int),(tl gap b r).2.length<=r.length
 | [],b=>by simp [tl]
 | x::r,b=>by
  simp only [tl]
  split
  ·have:=tl_len gap r (max b x.2);simp only [List.length_cons];omega
  ·have:=tl_len gap r x.2;simp only [List.length_cons];omega
theorem join_len (gap:Int) (L:List (Int×Int)):(zbN gap L).length<=L.length:=by
 cases L with
 | nil=>simp [zbN]
 | cons x r=>have:=tl_len gap r x.2;simp only [zbN,List.length_cons];omega
theorem tl_le (gap M:Int):∀(r:List (Int×Int)) (b:Int),b<=M->(∀x∈r,x.2<=M)->(tl gap b r).1<=M/\∀x∈(tl gap b r).2,x.2<=M
 | [],b,hb,_=>⟨hb,fun x hx=>by simp [tl] at hx⟩
 | x::r,b,hb,h=>by
  have hx:=h x (List.mem_cons_self ..)
  simp only [tl]
  split
  ·exact tl_le gap M r (max b x.2) (by omega) (fun y hy=>h y (List.mem_cons_of_mem _ hy))
  ·obtain ⟨i1,i2⟩:=tl_le gap M r x.2 hx (fun y hy=>h y (List.mem_cons_of_mem _ hy))
   refine ⟨hb,fun y hy=>?_⟩
   rcases List.mem_cons.1 hy with h1|h1
   ·subst h1;exact i1
   ·exact i2 y h1
theorem join_le (gap M:Int) (L:List (Int×Int)) (h:∀x∈L,x.2<=M):∀x∈zbN gap L,x.2<=M:=by
 cases L with
 | nil=>intro x hx;simp [zbN] at hx
 | cons y r =>
  obtain ⟨i1,i2⟩:=tl_le gap M r y.2 (h y (List.mem_cons_self ..)) (fun z hz=>h z (List.mem_cons_of_mem _ hz))
  intro x hx
  simp only [zbN] at hx
  rcases List.mem_cons.1 hx with h1|h1
  ·subst h1;exact i1
  ·exact i2 x h1
theorem putS_len {T T':List (Int×Int)} {x:Int×Int} (h:PutS T x T'):T'.length<=T.length+1:=by
 obtain ⟨S,hp,_,rfl⟩:=h
 have h1:=join_len 0 S
 have h2:=hp.length_eq
 have h3:(full (T++[x])).length<=(T++[x]).length:=List.length_filter_le _ _
 rw [List.length_append] at h3
 simp at h3
 omega
theorem putS_le {T T':List (Int×Int)} {x:Int×Int} (h:PutS T x T') (M:Int) (hT:∀z∈T,z.2<=M) (hx:x.2<=M):∀z∈T',z.2<=M:=by
 obtain ⟨S,hp,_,rfl⟩:=h
 refine join_le 0 M S (fun z hz=>?_)
 have h1:=(List.mem_filter.1 (hp.mem_iff.1 hz)).1
 rcases List.mem_append.1 h1 with h2|h2
 ·exact hT z h2
 ·simp at h2;subst h2;exact hx
structure SetOk (T:List (Int×Int)) (n:Nat) (C:Int->Prop):Prop where
 form:Form T
 cov_:∀k,cov T k↔C k
 len:T.length<=n
 le:∀z∈T,z.2<=9223372036854775807
theorem SetOk.put {T T':List (Int×Int)} {n:Nat} {C C':Int->Prop} {x:Int×Int} (h:SetOk T n C) (hP:PutS T x T') (hx:x.2<=9223372036854775807) (hC:∀k,C' k↔C k\/cov [x] k):SetOk T' (n+1) C':=by
 obtain ⟨h1,h2⟩:=ze3 hP
 exact ⟨h1,fun k=>by rw [h2 k,h.cov_ k,hC k],by have:=putS_len hP;have:=h.len;omega,putS_le hP _ h.le hx⟩
theorem SetOk.nil:SetOk [] 0 (fun _=>False):=⟨zdf,fun k=>⟨fun h=>absurd h (zbE k),fun h=>h.elim⟩,by simp,fun z h=>(by cases h)⟩
theorem getD_mem2 {l:List (Int×Int)} {k:Nat} (hk:k<l.length):l.getD k (0,0)∈l:=by
 rw [show l.getD k (0,0)=l[k] from by simp [List.getD,hk]]
 exact List.getElem_mem hk
def inB (z:Int×Int) (i:Nat):Bool:=decide (0<=z.1)&&decide (z.1<=(i:Int))&&decide ((i:Int)<z.2)
theorem zdy (z:Int×Int) (i:Nat):inB z i=true↔0<=z.1/\z.1<=(i:Int)/\(i:Int)<z.2:=by simp [inB,and_assoc]
def marks (L:List (Int×Int)) (i:Nat):Bool:=L.any fun z=>inB z i
theorem marks_iff (L:List (Int×Int)) (i:Nat):marks L i=true↔cov L (i:Int):=by
 simp only [marks,List.any_eq_true,zdy,cov]
structure SpSt (B:Nat->Bool) (k:Nat) (out:List (Int×Int)) (from_:Int):Prop where
 form:Form out
 len:out.length<=k
 bd:∀z∈out,z.2<=(k:Int)
 st:(from_=-1/\(∀z∈out,z.2<(k:Int))/\∀j,cov out j↔0<=j/\j<(k:Int)/\B j.toNat=true) \/
  (∃f:Nat,from_=(f:Int)/\f<k/\(∀z∈out,z.2<(f:Int))/\(∀i,f<=i->i<k->B i=true)/\∀j,cov out j↔0<=j/\j<(f:Int)/\B j.toNat=true)
theorem SpSt.zero (B:Nat->Bool):SpSt B 0 [] (-1):=⟨zdf,ym _,fun z h=>(by cases h),.inl ⟨rfl,fun z h=>(by cases h),fun j=>⟨fun h=>absurd h (zbE j),fun h=>by omega⟩⟩⟩
theorem SpSt.rng {B:Nat->Bool} {k:Nat} {out:List (Int×Int)} {f:Int} (h:SpSt B k out f):-1<=f/\f<(k:Int):=by
 rcases h.st with ⟨h1,_⟩|⟨g,h1,h2,_⟩<;>omega
theorem SpSt.on {B:Nat->Bool} {k:Nat} {out:List (Int×Int)} {f:Int} (h:SpSt B k out f) (hB:B k=true) (hf:0<=f):SpSt B (k+1) out f:=by
 rcases h.st with ⟨h1,_⟩|⟨g,h1,h2,h3,h4,h5⟩
 ·omega
 ·exact ⟨h.form,by have:=h.len;omega,fun z hz=>by have:=h.bd z hz;omega,.inr ⟨g,h1,by omega,h3,fun i a b=>by
   by_cases e:i=k
   ·subst e;exact hB
   ·exact h4 i a (by omega),h5⟩⟩
theorem SpSt.none {B:Nat->Bool} {k:Nat} {out:List (Int×Int)} {f:Int} (h:SpSt B k out f) (hB:B k=false) (hf:f<0):SpSt B (k+1) out (-1):=by
 rcases h.st with ⟨_,h2,h3⟩|⟨g,h1,_⟩
 ·refine ⟨h.form,by have:=h.len;omega,fun z hz=>by have:=h.bd z hz;omega,.inl ⟨rfl,fun z hz=>by have:=h2 z hz;omega,fun j=>?_⟩⟩
  rw [h3 j]
  constructor
  ·exact fun ⟨a,b,c⟩=>⟨a,by omega,c⟩
  ·rintro ⟨a,b,c⟩
   refine ⟨a,?_,c⟩
   by_cases e:j=(k:Int)
   ·subst e
    rw [Int.toNat_natCast,hB] at c
    cases c
   ·omega
 ·omega
structure SpOf (n:Nat) (m:Nat->Bool) (out:List (Int×Int)):Prop where
 form:Form out
 len:out.length<=n+1
 bd:∀z∈out,z.2<=(n:Int)+1
 cov_:∀j,cov out j↔0<=j/\j<(n:Int)/\m j.toNat=true
theorem SpSt.fin {m:Nat->Bool} {n:Nat} {out:List (Int×Int)} {f:Int} (h:SpSt (fun i=>decide (i<n)&&m i) (n+1) out f):SpOf n m out:=by
 have hb:=h.bd
 rcases h.st with ⟨_,h2,h3⟩|⟨g,_,h2,_,h4,_⟩
 ·refine ⟨h.form,h.len,fun z hz=>by have:=hb z hz;omega,fun j=>?_⟩
  rw [h3 j]
  simp only [Bool.and_eq_true,decide_eq_true_eq]
  constructor
  ·exact fun ⟨a,b,c,d⟩=>⟨a,by omega,d⟩
  ·exact fun ⟨a,b,d⟩=>⟨a,by omega,by omega,d⟩
 ·have:=h4 n (by omega) (by omega)
  simp at this
def cntB (m:Nat->Bool):Nat->Int
 | 0=>0
 | k+1=>cntB m k+if m k=true then 1 else 0
theorem zfV {m m':Nat->Bool}:∀(k:Nat),(∀i,i<k->m i=m' i)->cntB m k=cntB m' k
 | 0,_=>rfl
 | k+1,h=>by
  simp only [cntB]
  rw [zfV k (fun i hi=>h i (by omega)),h k (by omega)]
theorem cntB_none:∀(k:Nat),cntB (fun _=>false) k=0
 | 0=>rfl
 | k+1=>by simp [cntB,cntB_none k]
theorem cntB_or {m m':Nat->Bool}:∀(k:Nat),(∀i,i<k->¬(m i=true/\m' i=true))->cntB (fun i=>m i||m' i) k=cntB m k+cntB m' k
 | 0,_=>rfl
 | k+1,h=>by
  have h1:=cntB_or k (fun i hi=>h i (by omega))
  have h2:=h k (by omega)
  simp only [cntB]
  rw [h1]
  by_cases h3:m k=true<;>by_cases h4:m' k=true
  ·exact absurd ⟨h3,h4⟩ h2
  ·simp only [h3,h4,Bool.true_or,if_true,if_false,Bool.false_eq_true];omega
  ·simp only [h3,h4,Bool.or_true,if_true,if_false,Bool.false_eq_true];omega
  ·simp only [h3,h4,Bool.or_self,if_false,Bool.false_eq_true];omega
theorem cntB_in {a b:Int} (h0:0<=a) (h1:a<b):∀(k:Nat),cntB (inB (a,b)) k=max 0 (min (k:Int) b-a)
 | 0=>by simp only [cntB];omega
 | k+1=>by
  have:=cntB_in h0 h1 k
  have hi:=zdy (a,b) k
  simp only at hi
  simp only [cntB]
  rw [this]
  by_cases hc:inB (a,b) k=true
  ·have h2:=hi.1 hc
   rw [yf hc];omega
  ·rw [yg hc]
   have h2:¬(a<=(k:Int)/\(k:Int)<b):=fun h=>hc (hi.2 ⟨h0,h⟩)
   omega
theorem sumS_cnt:∀ {T:List (Int×Int)} (N:Nat),Form T->(∀z∈T,z.2<=(N:Int))->sumS T=cntB (marks T) N
 | [],N,_,_=>by
  rw [show marks []=fun _=>false from rfl,cntB_none];rfl
 |(a,b)::T,N,h,hb=>by
  have hf:=h.full _ (List.mem_cons_self ..)
  have hb1:=hb _ (List.mem_cons_self ..)
  have hp:=(List.pairwise_cons.1 h.apart).1
  simp only at hf hb1 hp
  have ih:=sumS_cnt N h.tail (fun z hz=>hb z (List.mem_cons_of_mem _ hz))
  have e:marks ((a,b)::T)=fun i=>inB (a,b) i||marks T i:=by
   funext i;simp [marks]
  rw [e,cntB_or N (fun i _=>fun ⟨h1,h2⟩=>by
   obtain ⟨x,hx,k0,k1,k2⟩:=(marks_iff T i).1 h2
   have h3:=(zdy _ _).1 h1
   have:=hp x hx
   simp only at h3
   omega),<-ih,cntB_in hf.1 hf.2]
  show (b-a)+sumS T=_
  omega
def zd1 (T:List (Int×Int)) (m:Nat->Bool):Prop:=∀j,cov T j↔0<=j/\j<301/\m j.toNat=true
theorem zd1.at {T:List (Int×Int)} {m:Nat->Bool} (h:zd1 T m) {i:Nat} (hi:i<301):marks T i=m i:=by
 rw [Bool.eq_iff_iff,marks_iff,h]
 rw [Int.toNat_natCast]
 exact ⟨fun h=>h.2.2,fun h=>⟨by omega,by omega,h⟩⟩
theorem zd1.bd {T:List (Int×Int)} {m:Nat->Bool} (h:zd1 T m) (hf:Form T):∀z∈T,z.2<=301:=fun z hz=>by
 obtain ⟨h0,h1⟩:=hf.full z hz
 have:=((h (z.2-1)).1 ⟨z,hz,h0,by omega,by omega⟩).2.1
 omega
theorem zd1.size {T:List (Int×Int)} {m:Nat->Bool} (h:zd1 T m) (hf:Form T):sumS T=cntB m 301:=by
 rw [sumS_cnt 301 hf (fun z hz=>h.bd hf z hz)]
 exact zfV 301 fun i hi=>h.at hi
def hasR (m:Nat->Bool) (x:Int×Int):Nat->Bool
 | 0=>true
 | k+1=>hasR m x k&&!(inB x k&&!m k)
theorem hasR_iff (m:Nat->Bool) (x:Int×Int):∀k,hasR m x k=true↔∀i,i<k->inB x i=true->m i=true
 | 0=>⟨fun _ i hi=>by omega,fun _=>rfl⟩
 | k+1=>by
  simp only [hasR,Bool.and_eq_true,hasR_iff m x k]
  constructor
  ·rintro ⟨h1,h2⟩ i hi hx
   by_cases e:i=k
   ·subst e;rw [hx] at h2;simpa using h2
   ·exact h1 i (by omega) hx
  ·intro h
   refine ⟨fun i hi hx=>h i (by omega) hx,?_⟩
   cases hx:inB x k with
   | false=>rfl
   | true=>rw [h k (by omega) hx];rfl
theorem zd1.has {T:List (Int×Int)} {m:Nat->Bool} (h:zd1 T m) (hf:Form T) {x:Int×Int} (hx:x.2<=300):hasS T x=hasR m x 301:=by
 rw [Bool.eq_iff_iff,hasR_iff]
 cases he:emp x with
 | true =>
  have h1:=emp_true.1 he
  refine ⟨fun _ i _ hi=>?_,fun _=>by unfold hasS;rw [he];rfl⟩
  have:=(zdy _ _).1 hi
  omega
 | false =>
  obtain ⟨e0,e1⟩:=zbo.1 he
  rw [has_iff hf he]
  constructor
  ·intro hall i hi hin
   obtain ⟨a,b,c⟩:=(zdy _ _).1 hin
   have:=((h _).1 (hall i b c)).2.2
   rwa [Int.toNat_natCast] at this
  ·intro hall j a b
   refine (h j).2 ⟨by omega,by omega,hall j.toNat (by omega) ((zdy _ _).2 ⟨e0,?_,?_⟩)⟩<;>rw [Int.toNat_of_nonneg (by omega)]<;>assumption
theorem zfE (tto:Int):∀ {L:List (Int×Int)} (_:Form L) (A:Int),∀z∈za7 tto A L,z.2<tto->cov L z.2
 | [],_,A,z,hz,hlt=>by
  simp only [za7] at hz
  split at hz
  ·simp at hz;subst hz;simp only at hlt;omega
  ·cases hz
 |(f,b)::L,h,A,z,hz,hlt=>by
  have hf:=h.full _ (List.mem_cons_self ..)
  simp only at hf
  simp only [za7] at hz
  rcases List.mem_append.1 hz with h1|h1
  ·split at h1
   ·simp at h1
    subst h1
    simp only at hlt |-
    rw [zaK]
    exact .inl ⟨hf.1,by simp only;omega,by simp only;omega⟩
   ·cases h1
  ·rw [zaK]
   exact .inr (zfE tto h.tail _ z h1 hlt)
theorem miss_form {T:List (Int×Int)} (h:Form T) (x:Int×Int):Form (zcq T x)/\∀j,cov (zcq T x) j↔emp x=false/\x.1<=j/\j<x.2/\¬cov T j:=by
 unfold zcq
 cases he:emp x with
 | true=>exact ⟨by simpa using zdf,fun j=>⟨fun hc=>absurd (by simpa using hc) (zbE j),fun hc=>by simp at hc⟩⟩
 | false =>
  obtain ⟨e0,e1⟩:=zbo.1 he
  simp only [Bool.false_eq_true,if_false,true_and]
  obtain ⟨i1,i2,i3⟩:=zcZ x.2 h x.1 e0
  refine ⟨⟨fun z hz=>?_,List.pairwise_iff_getElem.2 fun i j hi hj hij=>?_⟩,i3⟩
  ·have:=i1 z hz
   exact ⟨by omega,this.2.1⟩
  ·have h1:=List.pairwise_iff_getElem.1 i2 i j hi hj hij
   have h2:=i1 _ (List.getElem_mem hj)
   by_cases e:((za7 x.2 x.1 T)[i]).2=((za7 x.2 x.1 T)[j]).1
   ·exfalso
    have h3:=zfE x.2 h x.1 _ (List.getElem_mem hi) (by omega)
    rw [e] at h3
    exact ((i3 _).1 ⟨_,List.getElem_mem hj,by omega,Int.le_refl _,h2.2.1⟩).2.2 h3
   ·omega
end Go.Proofs.YtfafdeemfeaedaaGreat
namespace Go.Proofs.YtfafdeemfeaedaaGreat
open Go.RowKit
def zeg (bs:List UInt8) (at_:Nat) (z:Int×Int):List UInt8:=(bs.drop (z.1.toNat-at_)).take (z.2.toNat-z.1.toNat)
def putM (bs:List UInt8) (at_:Nat):(Nat->UInt8)->List (Int×Int)->Nat->UInt8
 | C,[]=>C
 | C,z::M=>putM bs at_ (putC C z.1.toNat (zeg bs at_ z)) M
theorem putM_snoc (bs:List UInt8) (at_:Nat):∀(M:List (Int×Int)) (C:Nat->UInt8) (z:Int×Int),putM bs at_ C (M++[z])=putC (putM bs at_ C M) z.1.toNat (zeg bs at_ z)
 | [],_,_=>rfl
 | _::M,_,z=>putM_snoc bs at_ M _ z
def InSp (bs:List UInt8) (at_:Nat) (M:List (Int×Int)):Prop:=∀z∈M,(at_:Int)<=z.1/\z.1<z.2/\z.2<=(at_:Int)+bs.length
theorem chunk_len {bs:List UInt8} {at_:Nat} {z:Int×Int} (h:(at_:Int)<=z.1/\z.1<z.2/\z.2<=(at_:Int)+bs.length):(zeg bs at_ z).length=z.2.toNat-z.1.toNat:=by
 unfold zeg;rw [List.length_take,yj];omega
theorem putM_at {bs:List UInt8} {at_:Nat}:∀(M:List (Int×Int)) (C:Nat->UInt8),InSp bs at_ M->∀i:Nat,(cov M i->putM bs at_ C M i=bs.getD (i-at_) 0)/\(¬cov M i->putM bs at_ C M i=C i)
 | [],C,_,i=>⟨fun h=>absurd h (zbE _),fun _=>rfl⟩
 | z::M,C,h,i=>by
  obtain ⟨g1,g2⟩:=putM_at M (putC C z.1.toNat (zeg bs at_ z)) (fun y hy=>h y (List.mem_cons_of_mem _ hy)) i
  have hz:=h z (List.mem_cons_self ..)
  have hl:=chunk_len hz
  have hp:(z.1<=i/\(i:Int)<z.2)->putC C z.1.toNat (zeg bs at_ z) i=bs.getD (i-at_) 0:=fun hi=>by
   unfold putC
   rw [yf (by rw [hl];omega)]
   unfold zeg
   rw [List.getD_eq_getElem?_getD,List.getElem?_take,yf (by omega),List.getElem?_drop,List.getD_eq_getElem?_getD,show z.1.toNat-at_+(i-z.1.toNat)=i-at_ by omega]
  have hn:¬(z.1<=i/\(i:Int)<z.2)->putC C z.1.toNat (zeg bs at_ z) i=C i:=fun hi=>by
   unfold putC
   rw [yg (by rw [hl];omega)]
  show (cov (z::M) i->putM bs at_ (putC C z.1.toNat (zeg bs at_ z)) M i=_)/\(¬cov (z::M) i->putM bs at_ (putC C z.1.toNat (zeg bs at_ z)) M i=_)
  rw [zaK]
  refine ⟨fun hc=>?_,fun hc=>?_⟩
  ·by_cases hM:cov M i
   ·exact g1 hM
   ·rw [g2 hM]
    rcases hc with hc|hc
    ·exact hp ⟨hc.2.1,hc.2.2⟩
    ·exact absurd hc hM
  ·rw [g2 (fun e=>hc (.inr e))]
   exact hn (fun e=>hc (.inl ⟨by omega,e.1,e.2⟩))
def newC (T:List (Int×Int)) (C:Nat->UInt8) (at_:Nat) (bs:List UInt8) (C':Nat->UInt8):Prop:=∀i:Nat,(cov T i->C' i=C i)/\(¬cov T i->at_<=i->i<at_+bs.length->C' i=bs.getD (i-at_) 0)
theorem miss_in {T:List (Int×Int)} (h:Form T) (at_:Nat) (bs:List UInt8):InSp bs at_ (zcq T ((at_:Int),(at_:Int)+bs.length))/\∀i:Nat,cov (zcq T ((at_:Int),(at_:Int)+bs.length)) i↔(at_<=i/\i<at_+bs.length/\¬cov T i):=by
 obtain ⟨h1,h2⟩:=missS_spec h ((at_:Int),(at_:Int)+bs.length)
 obtain ⟨g1,g2⟩:=miss_form h ((at_:Int),(at_:Int)+bs.length)
 refine ⟨fun z hz=>?_,fun i=>?_⟩
 ·obtain ⟨-,-,a,b,c⟩:=h1 z hz
  exact ⟨a,b,c⟩
 ·rw [g2,zbo]
  simp only
  by_cases hc:cov T (i:Int)
  ·simp [hc]
  ·simp only [hc,not_false_eq_true,and_true]
   omega
theorem putM_new {T:List (Int×Int)} (h:Form T) (C:Nat->UInt8) (at_:Nat) (bs:List UInt8):newC T C at_ bs (putM bs at_ C (zcq T ((at_:Int),(at_:Int)+bs.length))):=by
 obtain ⟨h1,h2⟩:=miss_in h at_ bs
 intro i
 obtain ⟨g1,g2⟩:=putM_at _ C h1 i
 exact ⟨fun hc=>g2 (fun e=>((h2 i).1 e).2.2 hc),fun hc a b=>g1 ((h2 i).2 ⟨a,b,hc⟩)⟩
end Go.Proofs.YtfafdeemfeaedaaGreat
namespace Go.Proofs.YtfafdeemfeaedaaGreat
open Go.RowKit Go.Maps Go.Sort
structure zey (W:World) (mb n:Nat) (f:Int->Option Nat) (C':Nat->UInt8) (c:Nat) (D:List (Int×Int)) (wr:World) (n':Nat) (f':Int->Option Nat):Prop where
 mem:Mem wr mb n' f' C'
 keep:zae (MemS mb f) W wr
 old:∀(k g:Nat),f k=some g->f' k=some g
 new:∀(k g:Nat),f' k=some g->f k=some g\/W.heap.size<=g
 num:n'<=n+c
 had:∀z∈D,∀i:Nat,z.1<=i->(i:Int)<z.2->f' ((i / 4096:Nat):Int)≠none
theorem zey.memS {W:World} {mb n:Nat} {f:Int->Option Nat} {C':Nat->UInt8} {c:Nat} {D:List (Int×Int)} {wr:World} {n':Nat} {f':Int->Option Nat} (h:zey W mb n f C' c D wr n' f') :
  ∀b,MemS mb f' b->MemS mb f b\/W.heap.size<=b:=by
 rintro b (rfl|⟨k,hk⟩)
 ·exact .inl (.inl rfl)
 ·rcases h.new k b hk with h1|h1
  ·exact .inl (.inr ⟨k,h1⟩)
  ·exact .inr h1
theorem zey.start {W:World} {mb n:Nat} {f:Int->Option Nat} {C:Nat->UInt8} (h:Mem W mb n f C):zey W mb n f C 0 [] W n f :=
 ⟨h,zae.refl _ _,fun _ _ h=>h,fun _ _ h=>.inl h,ym _,fun z hz=>by cases hz⟩
theorem zey.step {W:World} {mb n:Nat} {f:Int->Option Nat} {C':Nat->UInt8} {c:Nat} {D:List (Int×Int)} {wr w1 w2:World} {n':Nat} {f':Int->Option Nat} (h:zey W mb n f C' c D wr n' f') (hk1:zae (fun b=>wr.heap.size<=b) wr w1)
  {z:Int×Int} {A:Nat} {l:List UInt8} {e:Ending} (hA:z.1=A) (hz:z.2=A+l.length) {m:Nat} (hl:l.length<=m) (hw:WrEnd w1 mb n' f' C' A l e w2) :
  ∃n2 f2,zey W mb n f (putC C' A l) (c+m) (D++[z]) w2 n2 f2:=by
 obtain ⟨-,n2,f2,hm,hn,hk,ho,hnw,hh⟩:=hw
 have s0:=h.keep.size
 have s1:=hk1.size
 refine ⟨n2,f2,hm,(h.keep.trans hk1 (fun b hb=>.inr (by omega))).trans hk (fun b hb=>h.memS b hb),fun k g e=>ho k g (h.old k g e),fun k g e=>?_,by have:=h.num;omega,fun y hy i h1 h2=>?_⟩
 ·rcases hnw k g e with h1|h1
  ·exact h.new k g h1
  ·exact .inr (by omega)
 ·rcases List.mem_append.1 hy with hy|hy
  ·have h3:=h.had y hy i h1 h2
   cases hf:f' ((i / 4096:Nat):Int) with
   | none=>exact absurd hf h3
   | some g=>rw [ho _ g hf];simp
  ·simp only [List.mem_singleton] at hy
   subst hy
   exact hh i (by omega) (by omega)
def SPutEnd (w:World) (U:Nat->Prop) (p tot N:Nat) (T:List (Int×Int)) (C:Nat->UInt8) (at_:Nat) (bs:List UInt8) (e:Ending) (w':World):Prop :=
 e=.returned (.int .i64 0)/\∃U' T' C',SrcQ w' U' p tot N T' C'/\PutS T ((at_:Int),(at_:Int)+bs.length) T'/\newC T C at_ bs C'/\zae U w w'/\∀b,U' b->U b\/w.heap.size<=b
theorem sput_fin {w w3 wr wd w':World} {S U:Nat->Prop} {p tot N:Nat} {T M:List (Int×Int)} {v0:Value} {mb n c n':Nat} {f f':Int->Option Nat} {C:Nat->UInt8} {at_:Nat} {bs:List UInt8} {e:Ending} (hs:IsSrc w S p tot T v0 mb n f C) (hU:∀b,U b↔(S b\/MemS mb f b))
  (hB:Below w.heap.size w w3) (hT:zey w3 mb n f (putM bs at_ C M) c M wr n' f') (hd:zae (fun b=>wr.heap.size<=b) wr wd) (hM:M=zcq T ((at_:Int),(at_:Int)+bs.length)) (hA:at_+bs.length<=tot) (hN:n+c<=N)
  (hp:zgb wd S p 2 (srcC tot v0 mb) 146 T ((at_:Int),(at_:Int)+bs.length) e w'):SPutEnd w U p tot N T C at_ bs (.returned (.int .i64 0)) w':=by
 obtain ⟨-,T',hP,S',v',hset,hk,hS'⟩:=hp
 obtain ⟨hF,hcov⟩:=ze3 hP
 have hBk:zae (fun b=>w.heap.size<=b) w w3:=zae.of_below hB (fun _ h=>h)
 have s1:=hB.size
 have s2:=hT.keep.size
 have s3:=hd.size
 have hm:=hT.memS
 have hml:=hT.mem.lt
 have hsm:∀b,MemS mb f' b->¬S b:=fun b hb hSb=>by
  rcases hm b hb with h1|h1
  ·exact hs.ap b h1 hSb
  ·have:=hs.set.lt b hSb;omega
 refine ⟨rfl,fun b=>S' b\/MemS mb f' b,T',putM bs at_ C M,⟨S',v',mb,n',f',⟨?_,?_,?_,hF,?_,?_,hs.totb⟩,by have:=hT.num;omega,fun b=>Iff.rfl⟩,hP,by rw [hM];exact putM_new hs.form C at_ bs,?_,?_⟩
 ·have:(srcC tot v0 mb).setIfInBounds 2 v'=srcC tot v' mb:=by simp [srcC]
  rw [<-this];exact hset
 ·exact (hT.mem.keeps hd (fun b hb hn=>by have:=hml b hb;omega)).keeps hk hsm
 ·intro b hb hSb
  rcases hS' b hSb with h1|h1
  ·exact hsm b hb h1
  ·have:=hml b hb;omega
 ·intro z hz
  have hz1:=hF.full z hz
  have hc:cov T' (z.2-1):=⟨z,hz,hz1.1,by omega,by omega⟩
  rcases (hcov _).1 hc with h1|h1
  ·obtain ⟨y,hy,_,_,h2⟩:=h1
   have:=hs.in_ y hy;omega
  ·obtain ⟨y,hy,_,_,h2⟩:=h1
   simp only [List.mem_singleton] at hy
   subst hy
   simp only at h2;omega
 ·intro i hi
  by_cases h0:cov T i
  ·have h1:=hs.known i h0
   cases hf:f ((i / 4096:Nat):Int) with
   | none=>exact absurd hf h1
   | some g=>rw [hT.old _ g hf];simp
  ·rcases (hcov _).1 hi with h1|h1
   ·exact absurd h1 h0
   ·obtain ⟨y,hy,h2,h3,h4⟩:=h1
    simp only [List.mem_singleton] at hy
    subst hy
    simp only at h2 h3 h4
    have h5:cov M i:=by rw [hM];exact ((miss_in hs.form at_ bs).2 i).2 ⟨by omega,by omega,h0⟩
    obtain ⟨z,hz,_,h6,h7⟩:=h5
    exact hT.had z hz i h6 h7
 ·have k1:zae U w wr:=((zae.refl U w).trans hBk (fun b hb=>.inr hb)).trans hT.keep (fun b hb=>.inl ((hU b).2 (.inr hb)))
  exact (k1.trans hd (fun b hb=>.inr (by omega))).trans hk (fun b hb=>.inl ((hU b).2 (.inl hb)))
 ·rintro b (hb|hb)
  ·rcases hS' b hb with h1|h1
   ·exact .inl ((hU b).2 (.inl h1))
   ·exact .inr (by omega)
  ·rcases hm b hb with h1|h1
   ·exact .inl ((hU b).2 (.inr h1))
   ·exact .inr (by omega)
theorem row_sub {w:World} {b0 o0 cap:Nat} {bs:List UInt8} (h:Row w 1 (some ⟨b0,o0,none⟩) bs.length cap (bs.map u8C)) (u v:Nat) (huv:u<v) (hv:v<=bs.length) :
  Row w 1 (some ⟨b0,o0+u,none⟩) ((bs.drop u).take (v-u)).length (cap-u) (((bs.drop u).take (v-u)).map u8C):=by
 obtain ⟨b1,o1,hab,hbw,hcell⟩:=h.at 0 0 (by omega)
 cases hab
 have hc:=h.2.1
 refine ⟨by simp,by simp;omega,by have:=h.2.2.1;omega,fun h=>(by cases h),fun _=>⟨b0,o0+u,rfl,hbw,fun j x hj=>?_⟩⟩
 rw [List.getElem?_map] at hj
 obtain ⟨y,hy,rfl⟩:=Option.map_eq_some_iff.1 hj
 rw [List.getElem?_take] at hy
 split at hy
 ·rw [List.getElem?_drop] at hy
  have hlt:=(List.getElem?_eq_some_iff.1 hy).1
  have h2:=hcell (u+j) hlt
  rw [<-Nat.add_assoc] at h2
  rw [h2]
  simp [List.getD,hy]
 ·cases hy
theorem sput_any {w:World} {U:Nat->Prop} {p tot N:Nat} {T:List (Int×Int)} {C:Nat->UInt8} (h:SrcQ w U p tot N T C) (hT:T.length<=1000) (at_:Nat) {a:Option Addr} {cap:Nat} {bs:List UInt8} (hr:Row w 1 a bs.length cap (bs.map u8C)) (ha:0<bs.length->∀x,a=some x->¬U x.block)
  (hA:at_+bs.length<=tot) {N':Nat} (hN:N+(T.length+1)*bs.length<=N') (hN':N'<=1000000000) :
  Calls Tryz.prog 59 #[.pointer (some ⟨p,0,none⟩),.int .i64 at_,.slice a bs.length cap] w (SPutEnd w U p tot N' T C at_ bs):=by
 have HI:=ya (is_any h)
 have HQ:=ya h
 obtain ⟨S,v0,mb,n,f,hs,hnN,hU⟩:=h
 have HS:=ya hs
 have HU:=ya hU
 have HR:=ya hr
 have HAL:=ya ha
 obtain ⟨-,c1,c2,c3⟩:=hs.cells
 have htb:=hs.totb
 have hp:=hs.set.lt p hs.set.own
 obtain ⟨x,hx⟩:∃x:Int,x=(at_:Int)+bs.length:=⟨_,rfl⟩
 have HX:=ya hx
 have hd1:decide ((at_:Int)<0)=false:=yd (by omega)
 have hd2:decide ((tot:Int)<at_)=false:=yd (by omega)
 have hd3:decide ((tot:Int)-at_<bs.length)=false:=yd (by omega)
 have hd2n:decide (tot<at_)=false:=yd (by omega)
 have hcap:=hr.2.1
 have hmx:=hr.i64
 have HTL:=ya hT
 have HNN:=ya hN
 have HN1:=ya hN'
 have HnN:=ya hnN
 clear hs hU hr ha hT hN hN' hnN
 go_enter Tryz.func59,Tryz.ntmps59
 go_wp2_with (go_at_call 70;refine HI.out.mono ?_;rintro e w' ⟨rfl,rfl⟩)
 rw [<-hx]
 obtain ⟨W,hW⟩:∃W,W=w.alloc (.cells #[.int .i64 at_,.int .i64 x] 129):=⟨_,rfl⟩
 have hbx:W.heap[w.heap.size]?=some (.cells #[.int .i64 at_,.int .i64 x] 129 (0,0)):=by rw [hW];exact zac _ rfl
 have hB:Below w.heap.size w W:=by rw [hW];exact zag _ _
 have hsz:W.heap.size=w.heap.size+1:=by rw [hW,zan]
 rw [<-hW]
 clear hW
 have HSW:=ya (HS.out.mono hB)
 have HMI:=ya (fun W' (hb:Below W.heap.size W W')=>missing_any (some ⟨p,2,none⟩) T at_ x W' ((HSW.out.mono hb).set.toV) (by have:=HTL.out;omega))
 have hml:=zdA x T at_
 obtain ⟨M,hM⟩:∃M,M=zcq T ((at_:Int),x):=⟨_,rfl⟩
 have hMl:M.length<=T.length+1:=by
  rw [hM];unfold zcq
  split
  ·simp
  ·exact hml
 have hMl2:M.length<=1001:=by have:=HTL.out;omega
 rw [<-hM] at HMI
 have HML:=ya hMl
 have HM:=ya hM
 clear hM hml hMl
 have q0:W.cell? ⟨w.heap.size,0,none⟩=some (.int .i64 at_):=by rw [cell_of_row W _ 0 _ _ _ hbx];rfl
 have q1:W.cell? ⟨w.heap.size,1,none⟩=some (.int .i64 x):=by rw [cell_of_row W _ 1 _ _ _ hbx];rfl
 have HBX:=ya hbx
 have HB:=ya hB
 clear hbx hB c1 c2 c3
 clear hd1 hd2 hd3 hd2n hmx hx
 go_region_held3 (fun w'=>w'.cell? ⟨w.heap.size,0,none⟩=some (.int .i64 at_)/\w'.cell? ⟨w.heap.size,1,none⟩=some (.int .i64 x)) (first|assumption|exact ⟨q0,q1⟩|exact ⟨cell?_keep (by assumption) q0,cell?_keep (by assumption) q1⟩)
  ((go_at_call 96;refine (HMI.out _ ((Below.refl _ _).drew)).mono ?_;rintro e w3 ⟨v3,rfl,hO3,hb3⟩;obtain ⟨a3,cap3,hv3,-⟩:=Row.of_owns hO3;subst hv3;have hb4:Below W.heap.size W w3:=(Below.refl _ _).drew.trans hb3))
 have HO3:=ya (show w3.ownsRow W.heap.size 129 2 (Value.slice a3 M.length cap3) M.length (spV M) from hO3)
 have HB3:=ya hb4
 have HS3:=ya (HSW.out.mono hb4)
 have HBX3:=ya (zaa hb4 HBX.out)
 have hs3:=hb4.size
 clear hO3 hb3 hb4 q0 q1
 obtain ⟨_,_,hz3,hr3,hbl3⟩:=Row.of_owns HO3.out
 cases hz3
 have HR3:=ya (show SRow w3 a3 M.length cap3 M from hr3)
 have HNEQ:=ya (show ∀z,a3=some z->¬MemS mb f z.block from fun z hz hm=>by
  have h1:=hbl3 z hz
  have h2:=HS.out.mem.lt _ hm
  omega)
 have HIN:=ya (show ∀k,k<M.length->∃F G:Nat,M.getD k (0,0)=((F:Int),(G:Int))/\at_<=F/\F<G/\G<=at_+bs.length from fun k hk=>by
  have h1:=(miss_in HS.out.form at_ bs).1 (M.getD k (0,0)) (by rw [<-HX.out,<-HM.out];exact getD_mem2 hk)
  exact ⟨(M.getD k (0,0)).1.toNat,(M.getD k (0,0)).2.toNat,Prod.ext (by simp only;omega) (by simp only;omega),by omega,by omega,by omega⟩)
 have hUS:∀b,MemS mb f b->U b:=fun b hb=>(HU.out b).2 (.inr hb)
 have HCL3:=ya (show w3.cell? ⟨p,3,none⟩=some (.map (some mb)) from HS3.out.cells.2.2.2)
 have hpm:¬MemS mb f p:=fun hm=>HS.out.ap p hm HS.out.set.own
 have HPM:=ya hpm
 have HUS:=ya hUS
 have HRW:=ya (HR.out.mono (HB.out.trans (HB3.out.mono (by omega))))
 clear hr3 hbl3 hpm hUS
 go_wp2
 go_loopw [47] (fun vi wr=>∃(k:Nat) (n':Nat) (f':Int->Option Nat),vi=.int .i64 k/\k<=M.length/\Hid (zey w3 mb n f (putM bs at_ C (M.take k)) (k*bs.length) (M.take k) wr n' f')) (fun vi _=>M.length-(intOf vi).toNat)
 case atStart=>exact ⟨0,n,f,rfl,Nat.zero_le _,ya (by rw [Nat.zero_mul];exact zey.start HS3.out.mem)⟩
 case round =>
  obtain ⟨k,n',f',rfl,hk,HT⟩:=hrel
  by_cases hlt:k<M.length
  ·obtain ⟨F,G,hz,hF,hFG,hG⟩:=HIN.out k hlt
   obtain ⟨b,off,rfl,_,hc⟩:=SRow.at (HR3.out.keeps HT.out.keep HNEQ.out) k hlt
   obtain ⟨hc0,hc1⟩:=hc k hlt
   rw [hz] at hc0 hc1
   simp only at hc0 hc1
   have HZ:=ya hz
   clear hc hz
   obtain ⟨b0,o0,rfl,_,_⟩:=HRW.out.at 0 0 (by omega)
   obtain ⟨u,hu⟩:∃u:Nat,u=F-at_:=⟨_,rfl⟩
   obtain ⟨v,hv⟩:∃v:Nat,v=G-at_:=⟨_,rfl⟩
   have hui:(F:Int)-at_=(u:Int):=by omega
   have hvi:(G:Int)-at_=(v:Int):=by omega
   have huv:u<v:=by omega
   have hvl:v<=bs.length:=by omega
   have hucap:u<cap:=by omega
   have hvcap:v<=cap:=by omega
   have hcmx:cap<=maxLen:=HR.out.2.2.1
   have hblk1:(wr.alloc (.cells #[.int .i64 F,.int .i64 G] 129)).heap[wr.heap.size]?=some (.cells #[.int .i64 F,.int .i64 G] 129 (0,0)):=zac _ rfl
   have hk1:zae (fun b=>wr.heap.size<=b) wr (wr.alloc (.cells #[.int .i64 F,.int .i64 G] 129)):=(zae.refl _ _).alloc _
   go_wp2_with fail
   generalize wr.alloc (.cells #[.int .i64 F,.int .i64 G] 129)=W1 at *
   have e0:W1.cell? ⟨wr.heap.size,0,none⟩=some (.int .i64 F):=by rw [cell_of_row W1 _ 0 _ _ _ hblk1];rfl
   have e1:W1.cell? ⟨wr.heap.size,1,none⟩=some (.int .i64 G):=by rw [cell_of_row W1 _ 1 _ _ _ hblk1];rfl
   have HK1:=ya hk1
   have HBL1:=ya hblk1
   have HUU:=ya (And.intro hu hv)
   clear hk1 hblk1 hu hv
   have iu:IntKind.i64.wrap (u:Int)=(u:Int):=IntWalk.i64_in _ (by unfold maxLen at hcmx;omega)
   have iv:IntKind.i64.wrap (v:Int)=(v:Int):=IntWalk.i64_in _ (by unfold maxLen at hcmx;omega)
   have hmx0:max (v:Int) 0=(v:Int):=by omega
   have hcne:¬cap=u:=by omega
   have huv':u<=v:=by omega
   have HTM:=ya (HT.out.memS)
   have hlen:((bs.drop u).take (v-u)).length=v-u:=by simp;omega
   have hW1s:=HK1.out.size
   have hws3:w3.heap.size<=wr.heap.size:=HT.out.keep.size
   have hpw:p<wr.heap.size:=by omega
   have hb0:b0<w3.heap.size:=by
    obtain ⟨b1,o1,hb1,hb2,_⟩:=HRW.out.at 0 0 (by omega)
    cases hb1;exact hb2
   have K1d:zae (fun b=>wr.heap.size<=b) wr W1.drew:=HK1.out.drewN 1
   have hb0U:¬MemS mb f b0:=fun e=>HAL.out (by omega) _ rfl (HUS.out b0 e)
   have HW5:=ya (write_any (p:=p) (HT.out.mem.keeps K1d (fun b hb hn=>by have:=HT.out.mem.lt b hb;omega)) (K1d.cell (HT.out.keep.cell HCL3.out HPM.out) (by omega))
    (fun e=>by
     rcases HTM.out p e with h1|h1
     ·exact HPM.out h1
     ·have:=hs3;omega) F (cap:=cap-u) (bs:=(bs.drop u).take (v-u))
    (row_sub ((HRW.out.keeps HT.out.keep (fun y hy=>by cases hy;exact hb0U)).keeps K1d (fun y hy=>by cases hy;show ¬wr.heap.size<=b0;omega)) u v huv hvl)
    (fun y hy e=>by
     cases hy
     rcases HTM.out b0 e with h1|h1
     ·exact hb0U h1
     ·omega)
    (by rw [hlen];have:=HUU.out;omega)
    (by
     rw [hlen]
     have h1:=HT.out.num
     have h2:(k+1)*bs.length<=(T.length+1)*bs.length:=Nat.mul_le_mul_right _ (by have:=HML.out;omega)
     rw [Nat.add_mul,Nat.one_mul] at h2
     have h3:=HNN.out
     have h4:=HN1.out
     have h5:=HnN.out
     omega))
   rw [hlen] at HW5
   have HLEN:=ya hlen
   have HKD:=ya K1d
   clear hlen K1d hb0U
   go_still_tail 13,(by kernel_rfl)
   go_wp2_with fail
   refine HW5.out.mono ?_
   intro e w5 hw5
   obtain ⟨n2,f2,hT2⟩:=HT.out.step HKD.out (z:=((F:Int),(G:Int))) (m:=bs.length) rfl (by rw [HLEN.out];have:=HUU.out;simp only;omega) (by rw [HLEN.out];omega) hw5
   obtain ⟨rfl,-⟩:=hw5
   have hT3:zey w3 mb n f (putM bs at_ C (M.take (k+1))) ((k+1)*bs.length) (M.take (k+1)) w5 n2 f2:=by
    rw [zbW M k hlt,HZ.out,putM_snoc,Nat.add_mul,Nat.one_mul]
    have e1:zeg bs at_ ((F:Int),(G:Int))=(bs.drop u).take (v-u):=by
     have:=HUU.out
     unfold zeg
     simp only [Int.toNat_natCast]
     rw [this.1,this.2,show G-at_-(F-at_)=G-F by omega]
    rw [e1]
    exact hT2
   have HT3:=ya hT3
   clear hT2 hT3 iu iv hmx0 hcne hui hvi
   go_wp2
   go_roundw
   case rel=>exact ⟨k+1,n2,f2,by go_num,by omega,HT3⟩
   case measure=>simp [intOf];omega
  ·obtain rfl:k=M.length:=by omega
   have hbw:¬MemS mb f w.heap.size:=fun e=>by have:=HS.out.mem.lt _ e;omega
   have hbx:=HT.out.keep.obj HBX3.out hbw
   have q0:wr.cell? ⟨w.heap.size,0,none⟩=some (.int .i64 at_):=by rw [cell_of_row wr _ 0 _ _ _ hbx];rfl
   have q1:wr.cell? ⟨w.heap.size,1,none⟩=some (.int .i64 x):=by rw [cell_of_row wr _ 1 _ _ _ hbx];rfl
   have hset:=HS3.out.set.keeps HT.out.keep (fun b hb e=>HS.out.ap b e hb)
   have HP:=ya (put_anyG p 2 S _ _ v0 T at_ x wr.drew (hset.mono (Below.refl _ _).drew) (fun z hz=>by
    rcases List.mem_append.1 hz with hz|hz
    ·have h1:=HS.out.form.full z hz
     have h2:=HS.out.in_ z hz
     omega
    ·simp only [List.mem_singleton] at hz
     subst hz
     have:=HX.out
     simp only
     omega) (by have:=HTL.out;omega))
   have HFIN:=ya (show ∀e w',zgb wr.drew S p 2 (srcC tot v0 mb) 146 T ((at_:Int),x) e w'->SPutEnd w U p tot N' T C at_ bs (.returned (.int .i64 0)) w' from fun e w' he=>by
    have h0:=HT.out
    rw [List.take_length] at h0
    rw [HX.out] at he
    refine sput_fin HS.out HU.out (HB.out.trans (HB3.out.mono (by omega))) h0 ((zae.refl _ wr).drewN 1) (by rw [HM.out,HX.out]) hA ?_ he
    have h2:M.length*bs.length<=(T.length+1)*bs.length:=Nat.mul_le_mul_right _ HML.out
    have h3:=HNN.out
    have h5:=HnN.out
    omega)
   clear hbw hbx hset
   go_wp2_with fail
   go_still_tail 4,(by kernel_rfl)
   go_wp2_with fail
   refine HP.out.mono ?_
   intro e w5 hw5
   have HF:=ya (HFIN.out _ _ hw5)
   obtain ⟨rfl,-⟩:=hw5
   go_wp2
   go_ret
   exact HF.out
theorem row_block {w:World} {sz:Nat} {a:Option Addr} {n cap:Nat} {xs:List Value} (h:Row w sz a n cap xs) (hn:0<n):∀x,a=some x->x.block<w.heap.size:=by
 obtain ⟨b,o,rfl,hb,-⟩:=h.2.2.2.2 hn
 intro x hx
 cases hx
 exact hb
def zgt (bs:List UInt8) (w:World) (e:Ending) (w':World):Prop :=
 ∃p U T C,e=.returned (.pointer (some ⟨p,0,none⟩))/\SrcQ w' U p bs.length bs.length T C/\T.length<=1/\Form T/\(∀i:Nat,cov T i↔i<bs.length)/\(∀i:Nat,i<bs.length->C i=bs.getD i 0)/\Below w.heap.size w w'
theorem whole_any {w:World} {a:Option Addr} {cap:Nat} {bs:List UInt8} (hr:Row w 1 a bs.length cap (bs.map u8C)) (hl:bs.length<=10000) :
  Calls Tryz.prog 39 #[.slice a bs.length cap] w (zgt bs w):=by
 have HN:=ya (new_any bs.length w (by omega))
 have HR:=ya hr
 have hmx:=hr.i64
 clear hr
 go_enter Tryz.func39,Tryz.ntmps39
 go_wp2_with (go_at_call 58;refine HN.out.mono ?_;rintro e w1 ⟨p,U,rfl,hQ,hB,hU,hp⟩)
 have HQ:=ya hQ
 have HB:=ya hB
 have HU:=ya hU
 have HP:=ya (sput_any hQ (by simp) 0 (HR.out.mono hB) (fun hn x hx hUx=>by
  have h1:=row_block HR.out hn x hx
  have h2:=hU _ hUx
  omega) (by omega) (N':=bs.length) (by simp) (by omega))
 clear hQ hB hU hp
 go_wp2_with fail
 refine HP.out.mono ?_
 rintro e w2 ⟨rfl,U',T',C',hQ',hPS,hC,hK,hU'⟩
 obtain ⟨hF,hcov⟩:=ze3 hPS
 have hc:∀i:Nat,cov T' i↔i<bs.length:=fun i=>by
  rw [hcov]
  constructor
  ·rintro (h1|⟨y,hy,-,-,h2⟩)
   ·exact absurd h1 (zbE _)
   ·simp only [List.mem_singleton] at hy
    subst hy
    simp only at h2
    omega
  ·intro hi
   exact .inr ⟨_,List.mem_singleton.2 rfl,by simp,by simp,by simp only;omega⟩
 have HFIN:=ya (show zgt bs w (.returned (.pointer (some ⟨p,0,none⟩))) w2 from
  ⟨p,U',T',C',rfl,hQ',by have:=putS_len hPS;simpa using this,hF,hc,fun i hi=>by
   have:=(hC i).2 (zbE _) (by omega) (by omega)
   simpa using this,HB.out.trans (hK.below HB.out.size HU.out)⟩)
 clear hQ' hPS hC hK hU' hF hcov hc
 go_wp2
 go_ret
 exact HFIN.out
end Go.Proofs.YtfafdeemfeaedaaGreat
