/-
  Our texts App to Num3, in one.
-/
import Derived.Test.YtfafdeemfeaedaaGreatPkQ1
import Derived.Test.YtfafdeemfeaedaaGreatProg
import Derived.BigQuiet
import Derived.Deep.QuietTactic
import Derived.Laws.RangeAny
import Derived.IntWalk
import Derived.Lib.Bytealg
import Derived.Lib.Builder
import Derived.Lib.UnsafeStr
import Derived.Lib.ByteType
import Derived.StillTailTactics
import Derived.ScopeJumps
import Derived.WalkMore
import Derived.Deep.LoopGhost
set_option maxRecDepth 8000
set_option maxHeartbeats 8000000
namespace Go.Proofs.YtfafdeemfeaedaaGreat
open Go.RowKit
def NewAt (w:World) (v v':Value):Prop:=∀b,v'.ownBlock=some b->v.ownBlock=some b\/w.heap.size<=b
theorem zgA {P:Program} (w:World) (base:Nat) (t ty e:TypeId) (i:TypeInfo) (z:Value) (size bytes:Nat) (ht:P.underlying t=some (.slice e)) (hi:P.info? e=some i) (hz:i.zero=some z)
  (hsize:i.size=size) (hby:i.bytes=bytes) (hzs:z.cells.size=size) (hsz:0<size)
  (v:Value) (n:Nat) (xs:List Value) (hown:w.ownsRow base e size v n xs)
  (a:Addr) (m c:Nat) (news:List Value) (hl:news.length=m*size) (hnews:∀j u,news[j]?=some u->w.cell? (a.add j)=some u) (h1:∀u∈news,u.oneCell'=true)
  (h63:n+m<=maxLen) (hbytes:(n+m)*bytes<=140737488355328) (hbase:base<=w.heap.size) :
  ∃v' w',(Builtin.append_ #[t,t] ty #[v,.slice (some a) m c]).run P w=.ok v' w'/\w'.ownsRow base e size v' (n+m) (xs++news)/\w.grownBy w' v.ownBlock /\
   (v'=.slice none 0 0↔v=.slice none 0 0/\m=0)/\NewAt w v v':=by
 obtain ⟨v',w',hr,h2,h3,h4⟩:=run_append_own (P:=P) w base t ty e i z size bytes ht hi hz hsize hby hzs hsz v n xs hown a m c news hl hnews h1 h63 hbytes hbase
 refine ⟨v',w',hr,h2,h3,h4,?_⟩
 have hsmall:n+m<=9223372036854775807:=by simp only [maxLen] at h63;omega
 rcases hown.2 with ⟨rfl,hx⟩|⟨g,cap,cur,rfl,hbg,hg,hnc,hcm,hcs,htake⟩
 ·obtain ⟨v2,w2,hr2,g2,_,_⟩:=run_append_own (P:=P) w w.heap.size t ty e i z size bytes ht hi hz hsize hby hzs hsz _ n xs ⟨hown.1,.inl ⟨rfl,hx⟩⟩ a m c news hl hnews h1 h63 hbytes (ym _)
  rw [hr] at hr2
  simp only [Result.ok.injEq] at hr2
  obtain ⟨rfl,rfl⟩:=hr2
  exact fun b hb=>.inr (g2.lt b hb).1
 ·subst hsize hby
  by_cases hroom:n+m<=cap
  ·have hfit:n*i.size+news.length<=cur.size:=by rw [hl,hcs,<-Nat.add_mul];exact Nat.mul_le_mul_right _ hroom
   have hr2:=run_append_room (P:=P) w t ty e i ht hi g n cap cur hg a m c news hl hnews h1 hroom hfit
   rw [hr] at hr2
   simp only [Result.ok.injEq] at hr2
   obtain ⟨rfl,rfl⟩:=hr2
   exact fun b hb=>.inl hb
  ·have hr2:=run_append_grow (P:=P) w t ty e i z ht hi hz ⟨g,0,none⟩ n cap xs hown.1 (hown.cells (g:=g) rfl) a m c news hl hnews (by omega) (by omega) (growslice_fits (by omega) hbytes)
   rw [hr] at hr2
   simp only [Result.ok.injEq] at hr2
   obtain ⟨rfl,rfl⟩:=hr2
   intro b hb
   simp [Value.ownBlock] at hb
   right;omega
theorem append_at {P:Program} {w:World} {ops:Array Oper} {rest:List Oper} {o:Oper} {a:Act} {Q:Exit->Act->World->Prop} {t e:TypeId} {z:Value} {size bytes:Nat} (T:zdM P t e z size bytes)
  (hgd:o.guard=none) (s x:Operand) (ho:o.op=.call { callee:=.builtin .append,args:=#[s,x],argTypes:=#[t,t] })
  (base:Nat) (v:Value) (n:Nat) (xs:List Value) (hs:a.eval s=v) (hown:w.ownsRow base e size v n xs)
  (ao:Option Addr) (m c:Nat) (news:List Value) (hx:a.eval x=.slice ao m c) (hr:Row w size ao m c news) (h1:∀u∈news,u.oneCell'=true)
  (h63:n+m<=maxLen) (hbytes:(n+m)*bytes<=140737488355328) (hbase:base<=w.heap.size)
  (h:∀v' w',w'.ownsRow base e size v' (n+m) (xs++news)->w.grownBy w' v.ownBlock->NewAt w v v'->wpList P ops Q rest (a.put o.dst v') w'):wpList P ops Q (o::rest) a w:=by
 obtain ⟨i,hi,hz,hs',hb⟩:=info_parts T.info
 subst hb
 obtain ⟨r1,r2,r3,r4,r5⟩:=hr
 cases ao with
 | some ad =>
  refine wpList_plain hgd fun K hK=>?_
  obtain ⟨v',w',hrun,g2,g3,_,g5⟩:=zgA (P:=P) w base t o.type e i z size i.bytes T.und hi hz hs' rfl T.cells T.pos v n xs hown ad m c news r1 (fun j u hj=>by
   by_cases hm:0<m
   ·obtain ⟨b,off,hab,_,hc⟩:=r5 hm
    obtain rfl:=Option.some.inj hab
    rw [Addr.add_lit];exact hc j u hj
   ·obtain rfl:m=0:=by omega
    have:news=[]:=List.eq_nil_of_length_eq_zero (by simpa using r1)
    subst this;simp at hj) h1 h63 hbytes hbase
  unfold Oper.wp
  simp [execOp,ho,resolve,invoke,builtin,hs,hx,hrun,Result.andThen]
  exact hK _ _ (h v' w' g2 g3 g5)
 | none =>
  obtain rfl:=r4 rfl
  obtain rfl:m=0:=by omega
  have:news=[]:=List.eq_nil_of_length_eq_zero (by simpa using r1)
  subst this
  refine wpList_plain hgd fun K hK=>?_
  have hrun:=run_append_owned_none (P:=P) w base t o.type e i size T.und hi v n xs hown
  unfold Oper.wp
  simp [execOp,ho,resolve,invoke,builtin,hs,hx,hrun,Result.andThen]
  exact hK _ _ (h v w (by simpa using hown) ⟨rfl,rfl,rfl,ym _,fun _ _ _=>rfl⟩ (fun b hb=>.inl hb))
structure zae (S:Nat->Prop) (w w':World):Prop where
 os:w'.os=w.os
 tape:w'.tape=w.tape
 output:w'.output=w.output
 size:w.heap.size<=w'.heap.size
 block:∀b,b<w.heap.size->¬S b->w'.heap[b]?=w.heap[b]?
theorem zae.refl (S:Nat->Prop) (w:World):zae S w w:=⟨rfl,rfl,rfl,ym _,fun _ _ _=>rfl⟩
theorem zae.trans {S S':Nat->Prop} {a b c:World} (h:zae S a b) (k:zae S' b c) (hS:∀x,S' x->S x\/a.heap.size<=x):zae S a c :=
 ⟨k.os.trans h.os,k.tape.trans h.tape,k.output.trans h.output,Nat.le_trans h.size k.size,fun x hx hn=>(k.block x (Nat.lt_of_lt_of_le hx h.size) (fun e=>(hS x e).elim hn (fun h=>by omega))).trans (h.block x hx hn)⟩
theorem zae.of_grown {S:Nat->Prop} {w w':World} {row:Option Nat} (h:w.grownBy w' row) (hr:∀k,row=some k->S k):zae S w w' :=
 ⟨h.os,h.tape,h.output,h.size,fun b hb hn=>h.block b hb (fun e=>hn (hr b e.symm))⟩
theorem zae.of_below {S:Nat->Prop} {w w':World} {B:Nat} (h:Below B w w') (hS:∀b,B<=b->S b):zae S w w' :=
 ⟨h.os,h.tape,h.output,h.size,fun b _ hn=>h.block b (Nat.lt_of_not_le fun e=>hn (hS b e))⟩
theorem zae.below {S:Nat->Prop} {w w':World} {B:Nat} (h:zae S w w') (hB:B<=w.heap.size) (hS:∀b,S b->B<=b):Below B w w' :=
 ⟨h.os,h.tape,h.output,h.size,fun b hb=>h.block b (by omega) (fun e=>by have:=hS b e;omega)⟩
theorem zae.cell {S:Nat->Prop} {w w':World} (h:zae S w w') {b o:Nat} {v:Value} (hc:w.cell? ⟨b,o,none⟩=some v) (hn:¬S b):w'.cell? ⟨b,o,none⟩=some v:=by
 have hlt:b<w.heap.size:=World.block_lt_of_cell? w _ hc
 rw [World.cell?_of_block (w:=w) (a:=⟨b,o,none⟩) (h.block b hlt hn)];exact hc
theorem zae.obj {S:Nat->Prop} {w w':World} (h:zae S w w') {b:Nat} {o:Obj} (hc:w.heap[b]?=some o) (hn:¬S b):w'.heap[b]?=some o:=by
 rw [h.block b (Array.getElem?_eq_some_iff.1 hc).1 hn];exact hc
theorem Row.keeps {S:Nat->Prop} {w w':World} {sz:Nat} {a:Option Addr} {n cap:Nat} {xs:List Value} (h:Row w sz a n cap xs) (hk:zae S w w') (hne:∀x,a=some x->¬S x.block):Row w' sz a n cap xs:=by
 obtain ⟨h1,h2,h3,h4,h5⟩:=h
 refine ⟨h1,h2,h3,h4,fun hn=>?_⟩
 obtain ⟨b,off,ha,hlt,hc⟩:=h5 hn
 exact ⟨b,off,ha,Nat.lt_of_lt_of_le hlt hk.size,fun j u hj=>hk.cell (hc j u hj) (hne _ ha)⟩
theorem owns_keeps {S:Nat->Prop} {w w':World} {base e sz:Nat} {v:Value} {n:Nat} {xs:List Value} (h:w.ownsRow base e sz v n xs) (hk:zae S w w') (hne:∀b,v.ownBlock=some b->¬S b):w'.ownsRow base e sz v n xs:=by
 obtain ⟨h1,h2⟩:=h
 refine ⟨h1,?_⟩
 rcases h2 with h2|⟨g,cap,cur,hv,hg,hh,r⟩
 ·exact .inl h2
 ·exact .inr ⟨g,cap,cur,hv,hg,hk.obj hh (hne g (by rw [hv];rfl)),r⟩
theorem zae.weaken {S S':Nat->Prop} {w w':World} (h:zae S w w') (hS:∀b,S b->S' b):zae S' w w':=⟨h.os,h.tape,h.output,h.size,fun b hb hn=>h.block b hb (fun e=>hn (hS b e))⟩
theorem zae.drewN {S:Nat->Prop} {w w':World} (h:zae S w w') (q:Nat):zae S w (w'.drewN q):=⟨h.os,h.tape,h.output,h.size,h.block⟩
theorem zae.alloc {S:Nat->Prop} {w w':World} (h:zae S w w') (o:Obj):zae S w (w'.alloc o) :=
 ⟨h.os,h.tape,h.output,by rw [zan];have:=h.size;omega,fun b hb hn=>(Below.heap_alloc w' o b (Nat.lt_of_lt_of_le hb h.size)).trans (h.block b hb hn)⟩
theorem zae.setCell {S:Nat->Prop} {w w':World} (h:zae S w w') {a:Addr} (ha:S a.block\/w.heap.size<=a.block) (v:Value):zae S w (w'.setCell a v) :=
 ⟨h.os,h.tape,h.output,by simpa [World.setCell] using h.size,fun b hb hn=>(heap_setCell_other w' a b v (fun e=>by rcases ha with h1|h1;exact hn (e▸h1);omega)).trans (h.block b hb hn)⟩
theorem zae.grown {S:Nat->Prop} {w w' w2:World} {row:Option Nat} (h:zae S w w') (hg:w'.grownBy w2 row) (hr:∀k,row=some k->S k\/w.heap.size<=k):zae S w w2 :=
 h.trans (zae.of_grown (S:=fun k=>row=some k) hg fun _ hk=>hk) hr
def zc3 (r:Int):Int:=if r<48\/57<r then -1 else r-48
theorem zb5 (r:Int) (w:World) (h0:0<=r) (h1:r<=2147483647) :
  Calls Tryz.prog 207 #[.int .i32 r] w fun e w'=>e=.returned (.int .i64 (zc3 r))/\w=w':=by
 obtain ⟨V,hV⟩:∃V,V=zc3 r:=⟨_,rfl⟩
 rw [<-hV]
 unfold zc3 at hV
 by_cases h2:r<48
 ·rw [yf (.inl h2)] at hV
  have HV:=ya hV
  clear hV
  go_enter Tryz.func207,Tryz.ntmps207
  go_wp2
  go_ret
  exact ⟨zav HV.out.symm,rfl⟩
 ·have h2d:decide (r<48)=false:=by simpa using h2
  by_cases h3:57<r
  ·rw [yf (.inr h3)] at hV
   have HV:=ya hV
   clear hV
   go_enter Tryz.func207,Tryz.ntmps207
   go_wp2
   go_ret
   exact ⟨zav HV.out.symm,rfl⟩
  ·rw [yg (by omega)] at hV
   have HV:=ya hV
   have h3d:decide (57<r)=false:=by simpa using h3
   have h2':48<=r:=by omega
   have h3':r<=57:=by omega
   clear hV h2 h3
   go_enter Tryz.func207,Tryz.ntmps207
   go_wp2
   go_ret
   exact ⟨zav HV.out.symm,rfl⟩
abbrev bl (s:ByteArray):List UInt8:=s.data.toList
theorem zaM (s:ByteArray):(bl s).length=s.size:=Array.length_toList
theorem bl_get (s:ByteArray) (k:Nat) (h:k<s.size):(bl s)[k]'(by rw [zaM];exact h)=s[k]:=rfl
theorem zdQ (s:ByteArray) (k:Nat) (h:k<s.size):(bl s).take (k+1)=(bl s).take k++[s[k]]:=by
 rw [List.take_succ_eq_append_getElem (by rw [zaM];exact h)];rfl
theorem bl_drop (s:ByteArray) (k:Nat) (h:k<s.size):(bl s).drop k=s[k]::(bl s).drop (k+1):=by
 rw [List.drop_eq_getElem_cons (by rw [zaM];exact h)];rfl
theorem bl_mem (s:ByteArray) (k:Nat) (h:k<s.size):s[k]∈bl s:=by rw [<-bl_get s k h];exact List.getElem_mem _
theorem toL (s:ByteArray):s.toList=bl s:=ByteArray.toList_eq s
theorem dec_yes (s:ByteArray) (k:Nat) (h:k<s.size) (hd:isDg s[k]=true):Utf8.decode s k=(s[k].toNat,1):=by
 rw [zcj] at hd;exact decode_ascii s k h (by omega)
theorem dec_no (s:ByteArray) (k:Nat) (h:k<s.size) (hd:isDg s[k]=false):zc3 (Utf8.decode s k).1=-1:=by
 rw [isDg_no] at hd
 unfold zc3
 by_cases h2:s[k].toNat<128
 ·rw [decode_ascii s k h h2,yf]
  simp only;omega
 ·have:=(decode_high s k h (by omega)).1
  rw [yf];omega
theorem zb3 (w:World) (s:ByteArray) (k:Nat):Below w.heap.size w (w.iter s k):=zag w _
def DigEnd (V:Int×Int) (w:World) (e:Ending) (w':World):Prop:=e=.returned (.tuple #[.int .i64 V.1,.int .i64 V.2])/\Below w.heap.size w w'
theorem zca (s:ByteArray) (w:World) :
  Calls Tryz.prog 184 #[.string s] w (DigEnd (zaz (bl s)) w):=by
 obtain ⟨V,hV⟩:∃V,V=zaz (bl s):=⟨_,rfl⟩
 rw [<-hV]
 have HV:=ya hV
 clear hV
 by_cases he:s.toList=[]
 ·have HE:=ya (show V=(0,11) by rw [HV.out,<-toL,he];exact digitsV_nil)
  go_enter Tryz.func184,Tryz.ntmps184
  go_wp2
  go_ret2
  exact ⟨by rw [HE.out];rfl,Below.refl _ _⟩
 have he2:s.toList.isEmpty=false:=by simpa using he
 have hne:bl s≠[]:=by rw [<-toL];exact he
 have HNE:=ya hne
 clear he hne
 go_enter Tryz.func184,Tryz.ntmps184
 go_wp2
 go_loopw [4,5] (fun n o wr=>∃(k:Nat) (N:Int) (ov:Bool),k<=s.size/\n=.int .i64 N/\o=.bool ov/\wr=w.iter s k/\0<=N/\N<=2147483647/\Hid (((bl s).take k).all isDg=true)/\Hid (ov=decide (2147483647<valD ((bl s).take k)))/\Hid (ov=false->N=(valD ((bl s).take k):Nat)))
  (fun _ _ wr=>s.size-wr.iterPos w.heap.size)
 case atStart=>exact ⟨0,0,false,Nat.zero_le _,rfl,rfl,rfl,by omega,by omega,ya rfl,ya rfl,ya fun _=>rfl⟩
 case round =>
  obtain ⟨k,N,ov,hk,rfl,rfl,rfl,hN0,hN1,HA,HO,HN⟩:=hrel
  by_cases hlt:k<s.size
  ·have hnx:=fun ty=>run_next_any (P:=Tryz.prog) w s k ty hlt
   have hle:=decode_le s k
   by_cases hd:isDg s[k]=true
   ·rw [dec_yes s k hlt hd] at hnx hle
    have hd1:=zcj.1 hd
    have HDV:=ya (zgI hd)
    have HD9:=dgV_le hd
    have HTA:=ya (show ((bl s).take (k+1)).all isDg=true by rw [zdQ s k hlt];exact zcI _ _ HA.out hd)
    have HTV:=ya (show valD ((bl s).take (k+1))=10*valD ((bl s).take k)+dgV s[k] by rw [zdQ s k hlt];exact zbw _ _)
    have HDI:=ya (show zc3 ((s[k].toNat:Nat):Int)=(dgV s[k]:Nat) by unfold zc3;rw [yg (by omega),zgI hd])
    generalize dgV s[k]=d at *
    generalize s[k].toNat=c at *
    clear hd
    simp only at hnx hle
    cases ov
    ·have hval:=HN.out rfl
     have HVAL:=ya hval
     clear hval
     by_cases hov:(2147483647-(d:Int)) / 10<N
     ·have HOV2:=ya (show true=decide (2147483647<valD ((bl s).take (k+1))) by
       have h1:=HVAL.out
       rw [HTV.out,eq_comm,decide_eq_true_iff];omega)
      go_wp2_with (go_at_call 207;refine (zb5 _ _ (by omega) (by omega)).mono ?_;rintro e w' ⟨rfl,rfl⟩;rw [HDI.out])
      go_roundw
      case rel=>exact ⟨k+1,N,true,by omega,rfl,rfl,rfl,hN0,hN1,HTA,HOV2,ya (fun h=>by cases h)⟩
      case measure=>simp;omega
     ·have HOV2:=ya (show false=decide (2147483647<valD ((bl s).take (k+1))) by
       have h1:=HVAL.out
       rw [HTV.out,eq_comm,decide_eq_false_iff_not];omega)
      have HVL2:=ya (show 10*N+(d:Int)=((valD ((bl s).take (k+1)):Nat):Int) by rw [HTV.out,HVAL.out];omega)
      have hovd:decide ((2147483647-(d:Int)) / 10<N)=false:=by simpa using hov
      go_wp2_with (go_at_call 207;refine (zb5 _ _ (by omega) (by omega)).mono ?_;rintro e w' ⟨rfl,rfl⟩;rw [HDI.out])
      go_roundw
      case rel=>exact ⟨k+1,10*N+d,false,by omega,rfl,rfl,rfl,by omega,by omega,HTA,HOV2,ya (fun _=>HVL2.out)⟩
      case measure=>simp;omega
    ·have HOV2:=ya (show true=decide (2147483647<valD ((bl s).take (k+1))) by
      have h1:=HO.out
      rw [eq_comm,decide_eq_true_iff] at h1
      rw [HTV.out,eq_comm,decide_eq_true_iff];omega)
     go_wp2_with (go_at_call 207;refine (zb5 _ _ (by omega) (by omega)).mono ?_;rintro e w' ⟨rfl,rfl⟩;rw [HDI.out])
     go_roundw
     case rel=>exact ⟨k+1,N,true,by omega,rfl,rfl,rfl,hN0,hN1,HTA,HOV2,ya (fun h=>by cases h)⟩
     case measure=>simp;omega
   ·have hd2:isDg s[k]=false:=by simpa using hd
    have HDI:=ya (dec_no s k hlt hd2)
    have h128:0<=(Utf8.decode s k).1:=by omega
    have HF:=ya (show V=(0,11) by rw [HV.out];exact digitsV_form (all_false (bl_mem s k hlt) hd2))
    clear hd hd2
    go_wp2_with (go_at_call 207;refine (zb5 _ _ (by omega) (by omega)).mono ?_;rintro e w' ⟨rfl,rfl⟩;rw [HDI.out])
    go_ret2
    exact ⟨by rw [HF.out];rfl,zb3 _ _ _⟩
  ·obtain rfl:k=s.size:=by omega
   have hnx:=fun ty=>run_next_end (P:=Tryz.prog) w s s.size ty hlt
   have htk:(bl s).take s.size=bl s:=by rw [<-zaM];exact List.take_length
   have HT:=ya htk
   clear htk
   cases ov
   ·have HR:=ya (show V=(N,0) by
     have h1:=HA.out;have h2:=HO.out;have h3:=HN.out rfl
     rw [HT.out] at h1 h2 h3
     rw [eq_comm,decide_eq_false_iff_not] at h2
     rw [HV.out,zdv HNE.out h1 (by omega),h3])
    go_wp2
    go_ret2
    exact ⟨by rw [HR.out];rfl,zb3 _ _ _⟩
   ·have HR:=ya (show V=(0,5) by
     have h1:=HA.out;have h2:=HO.out
     rw [HT.out] at h1 h2
     rw [eq_comm,decide_eq_true_iff] at h2
     rw [HV.out,zdZ HNE.out h1 h2])
    go_wp2
    go_ret2
    exact ⟨by rw [HR.out];rfl,zb3 _ _ _⟩
theorem zdI (s:ByteArray) (w:World) :
  Calls Tryz.prog 224 #[.string s] w fun e w'=>e=.returned (.bool ((bl s).all isDg))/\Below w.heap.size w w':=by
 obtain ⟨V,hV⟩:∃V,V=(bl s).all isDg:=⟨_,rfl⟩
 rw [<-hV]
 have HV:=ya hV
 clear hV
 go_enter Tryz.func224,Tryz.ntmps224
 go_wp2
 go_loopw [] (fun wr=>∃k:Nat,k<=s.size/\wr=w.iter s k/\Hid (((bl s).take k).all isDg=true)) (fun wr=>s.size-wr.iterPos w.heap.size)
 case atStart=>exact ⟨0,Nat.zero_le _,rfl,ya rfl⟩
 case round =>
  obtain ⟨k,hk,rfl,HA⟩:=hrel
  by_cases hlt:k<s.size
  ·have hnx:=fun ty=>run_next_any (P:=Tryz.prog) w s k ty hlt
   have hle:=decode_le s k
   by_cases hd:isDg s[k]=true
   ·rw [dec_yes s k hlt hd] at hnx hle
    have hd1:=zcj.1 hd
    have hd9:=dgV_le hd
    have HTA:=ya (show ((bl s).take (k+1)).all isDg=true by rw [zdQ s k hlt];exact zcI _ _ HA.out hd)
    have HDI:=ya (show zc3 ((s[k].toNat:Nat):Int)=(dgV s[k]:Nat) by unfold zc3;rw [yg (by omega),zgI hd])
    generalize dgV s[k]=d at *
    generalize s[k].toNat=c at *
    clear hd
    simp only at hnx hle
    go_wp2_with (go_at_call 207;refine (zb5 _ _ (by omega) (by omega)).mono ?_;rintro e w' ⟨rfl,rfl⟩;rw [HDI.out])
    go_roundw
    case rel=>exact ⟨k+1,by omega,rfl,HTA⟩
    case measure=>simp;omega
   ·have hd2:isDg s[k]=false:=by simpa using hd
    have HDI:=ya (dec_no s k hlt hd2)
    have HF:=ya (show V=false by rw [HV.out];exact all_false (bl_mem s k hlt) hd2)
    clear hd hd2
    go_wp2_with (go_at_call 207;refine (zb5 _ _ (by omega) (by omega)).mono ?_;rintro e w' ⟨rfl,rfl⟩;rw [HDI.out])
    go_ret
    exact ⟨zaY (HF.out).symm,zb3 _ _ _⟩
  ·obtain rfl:k=s.size:=by omega
   have hnx:=fun ty=>run_next_end (P:=Tryz.prog) w s s.size ty hlt
   have htk:(bl s).take s.size=bl s:=by rw [<-zaM];exact List.take_length
   have HR:=ya (show V=true by rw [HV.out,<-htk];exact HA.out)
   clear htk
   go_wp2
   go_ret
   exact ⟨zaY (HR.out).symm,zb3 _ _ _⟩
def mkB (l:List UInt8):ByteArray:=⟨l.toArray⟩
theorem zaE (l:List UInt8):(mkB l).size=l.length:=by unfold mkB;simp [ByteArray.size]
def pvC (v:PV) (sl:Value):List Value:=[.int .i64 v.kind,.int .i64 v.n,.string (mkB v.s),sl]
def pvA (v:PV) (sl:Value):Value:=.agg #[.int .i64 v.kind,.int .i64 v.n,.string (mkB v.s),sl]
mutual
def IsV (w:World) (F:Nat->Prop):PV->Value->Prop
 | .mk _ _ _ l,sl=>∃a cap cs,sl=.slice a l.length cap/\Row w 4 a l.length cap cs/\(0<l.length->∀x,a=some x->F x.block)/\IsVs w F l cs
def IsVs (w:World) (F:Nat->Prop):List PV->List Value->Prop
 | [],cs=>cs=[]
 | v::l,cs=>∃sl t,cs=pvC v sl++t/\IsV w F v sl/\IsVs w F l t
end
theorem IsV.mk {w:World} {F:Nat->Prop} {v:PV} {a:Option Addr} {cap:Nat} {cs:List Value} (hr:Row w 4 a v.l.length cap cs) (hF:0<v.l.length->∀x,a=some x->F x.block) (h:IsVs w F v.l cs):IsV w F v (.slice a v.l.length cap):=by
 cases v;exact ⟨a,cap,cs,rfl,hr,hF,h⟩
theorem IsV.out {w:World} {F:Nat->Prop} {v:PV} {sl:Value} (h:IsV w F v sl):∃a cap cs,sl=.slice a v.l.length cap/\Row w 4 a v.l.length cap cs/\(0<v.l.length->∀x,a=some x->F x.block)/\IsVs w F v.l cs:=by
 cases v;exact h
theorem IsV.leaf (w:World) (F:Nat->Prop) (v:PV) (h:v.l=[]):IsV w F v (.slice none 0 0):=by
 have:=IsV.mk (w:=w) (F:=F) (v:=v) (a:=none) (cap:=0) (cs:=[]) (by rw [h];exact Row.nil w 4) (by rw [h];intro h;cases h) (by rw [h];rfl)
 rw [h] at this;exact this
theorem IsVs.length {w:World} {F:Nat->Prop}:∀ {l:List PV} {cs:List Value},IsVs w F l cs->cs.length=l.length*4
 | [],_,h=>by cases h;rfl
 | v::l,_,⟨sl,t,h,_,ht⟩=>by subst h;have:=IsVs.length ht;simp [pvC];omega
def zay (F:Nat->Prop) (w w':World):Prop:=w.heap.size<=w'.heap.size/\∀b,b<w.heap.size->F b->w'.heap[b]?=w.heap[b]?
theorem Row.stays {F:Nat->Prop} {w w':World} {sz:Nat} {a:Option Addr} {n cap:Nat} {xs:List Value} (h:Row w sz a n cap xs) (hk:zay F w w') (hne:0<n->∀x,a=some x->F x.block):Row w' sz a n cap xs:=by
 obtain ⟨h1,h2,h3,h4,h5⟩:=h
 refine ⟨h1,h2,h3,h4,fun hn=>?_⟩
 obtain ⟨b,off,ha,hlt,hc⟩:=h5 hn
 refine ⟨b,off,ha,Nat.lt_of_lt_of_le hlt hk.1,fun j u hj=>?_⟩
 rw [World.cell?_of_block (w:=w) (a:=⟨b,off+j,none⟩) (hk.2 b hlt (hne hn _ ha))]
 exact hc j u hj
mutual
theorem IsV.keep {w w':World} {F G:Nat->Prop} (hk:zay F w w') (hG:∀b,F b->G b):∀(v:PV) {sl:Value},IsV w F v sl->IsV w' G v sl
 | .mk _ _ _ l,_,⟨a,cap,cs,h,hr,hF,hs⟩=>⟨a,cap,cs,h,hr.stays hk hF,fun h0 x hx=>hG _ (hF h0 x hx),IsVs.keep hk hG l hs⟩
theorem IsVs.keep {w w':World} {F G:Nat->Prop} (hk:zay F w w') (hG:∀b,F b->G b):∀(l:List PV) {cs:List Value},IsVs w F l cs->IsVs w' G l cs
 | [],_,h=>h
 | v::l,_,⟨sl,t,h,hv,ht⟩=>⟨sl,t,h,IsV.keep hk hG v hv,IsVs.keep hk hG l ht⟩
end
theorem zay.refl (F:Nat->Prop) (w:World):zay F w w:=⟨ym _,fun _ _ _=>rfl⟩
theorem zay.of_below {F:Nat->Prop} {w w':World} (h:Below w.heap.size w w'):zay F w w':=⟨h.size,fun b hb _=>h.block b hb⟩
theorem zay.trans {F:Nat->Prop} {a b c:World} (h:zay F a b) (k:zay F b c):zay F a c:=⟨Nat.le_trans h.1 k.1,fun x hx hF=>(k.2 x (Nat.lt_of_lt_of_le hx h.1) hF).trans (h.2 x hx hF)⟩
theorem IsV.below {w w':World} {F:Nat->Prop} {v:PV} {sl:Value} (h:IsV w F v sl) (hb:Below w.heap.size w w'):IsV w' F v sl:=IsV.keep (zay.of_below hb) (fun _ h=>h) v h
theorem IsVs.below {w w':World} {F:Nat->Prop} {l:List PV} {cs:List Value} (h:IsVs w F l cs) (hb:Below w.heap.size w w'):IsVs w' F l cs:=IsVs.keep (zay.of_below hb) (fun _ h=>h) l h
theorem IsV.weaken {w:World} {F G:Nat->Prop} {v:PV} {sl:Value} (h:IsV w F v sl) (hG:∀b,F b->G b):IsV w G v sl:=IsV.keep (zay.refl F w) hG v h
theorem IsVs.weaken {w:World} {F G:Nat->Prop} {l:List PV} {cs:List Value} (h:IsVs w F l cs) (hG:∀b,F b->G b):IsVs w G l cs:=IsVs.keep (zay.refl F w) hG l h
theorem IsVs.append {w:World} {F:Nat->Prop}:∀ {l m:List PV} {cs ds:List Value},IsVs w F l cs->IsVs w F m ds->IsVs w F (l++m) (cs++ds)
 | [],_,_,_,h,hm=>by cases h;exact hm
 | v::l,_,_,_,⟨sl,t,h,hv,ht⟩,hm=>⟨sl,t++_,by subst h;simp,hv,IsVs.append ht hm⟩
theorem IsVs.one {w:World} {F:Nat->Prop} {v:PV} {sl:Value} (h:IsV w F v sl):IsVs w F [v] (pvC v sl):=⟨sl,[],by simp,h,rfl⟩
theorem IsVs.snoc {w:World} {F:Nat->Prop} {l:List PV} {cs:List Value} {v:PV} {sl:Value} (h:IsVs w F l cs) (hv:IsV w F v sl):IsVs w F (l++[v]) (cs++pvC v sl):=h.append (IsVs.one hv)
theorem IsVs.get {w:World} {F:Nat->Prop}:∀ {l:List PV} {cs:List Value},IsVs w F l cs->∀(k:Nat) (v:PV),l[k]?=some v->∃sl,IsV w F v sl/\cs[k*4]?=some (.int .i64 v.kind)/\cs[k*4+1]?=some (.int .i64 v.n)/\cs[k*4+2]?=some (.string (mkB v.s))/\cs[k*4+3]?=some sl
 | [],_,_,_,_,hk=>by simp at hk
 | x::l,_,⟨sl,t,h,hv,ht⟩,0,v,hk=>by
  simp at hk;subst hk h
  exact ⟨sl,hv,rfl,rfl,rfl,rfl⟩
 | x::l,_,⟨sl,t,h,hv,ht⟩,k+1,v,hk=>by
  subst h
  obtain ⟨s2,h1,h2,h3,h4,h5⟩:=ht.get k v (by simpa using hk)
  refine ⟨s2,h1,?_,?_,?_,?_⟩
  ·rw [show (k+1)*4=4+k*4 by omega,List.getElem?_append_right (by simp [pvC])];simpa [pvC] using h2
  ·rw [show (k+1)*4+1=4+(k*4+1) by omega,List.getElem?_append_right (by simp [pvC])];simpa [pvC] using h3
  ·rw [show (k+1)*4+2=4+(k*4+2) by omega,List.getElem?_append_right (by simp [pvC])];simpa [pvC] using h4
  ·rw [show (k+1)*4+3=4+(k*4+3) by omega,List.getElem?_append_right (by simp [pvC])];simpa [pvC] using h5
theorem IsV.at {w:World} {F:Nat->Prop} {v:PV} {a:Option Addr} {n cap:Nat} (h:IsV w F v (.slice a n cap)) (hn:0<n) :
  n=v.l.length/\n<=cap/\cap<=maxLen/\∃b off,a=some ⟨b,off,none⟩/\b<w.heap.size/\F b/\∀k x,v.l[k]?=some x->∃sl,IsV w F x sl/\w.cell? ⟨b,off+k*4,none⟩=some (.int .i64 x.kind) /\
   w.cell? ⟨b,off+k*4+1,none⟩=some (.int .i64 x.n)/\w.cell? ⟨b,off+k*4+2,none⟩=some (.string (mkB x.s))/\w.cell? ⟨b,off+k*4+3,none⟩=some sl:=by
 obtain ⟨a',cap',cs,e,hr,hF,hs⟩:=h.out
 simp only [Value.slice.injEq] at e
 obtain ⟨rfl,rfl,rfl⟩:=e
 obtain ⟨b,off,rfl,hb,hc⟩:=hr.2.2.2.2 hn
 refine ⟨rfl,hr.2.1,hr.2.2.1,b,off,rfl,hb,hF hn _ rfl,fun k x hx=>?_⟩
 obtain ⟨sl,h1,h2,h3,h4,h5⟩:=hs.get k x hx
 exact ⟨sl,h1,hc _ _ h2,(Nat.add_assoc off (k*4) 1).symm▸hc _ _ h3,(Nat.add_assoc off (k*4) 2).symm▸hc _ _ h4,(Nat.add_assoc off (k*4) 3).symm▸hc _ _ h5⟩
theorem IsV.len {w:World} {F:Nat->Prop} {v:PV} {sl:Value} (h:IsV w F v sl):∃a cap,sl=.slice a v.l.length cap/\v.l.length<=cap/\cap<=maxLen/\(a=none->cap=0):=by
 obtain ⟨a,cap,cs,e,hr,_⟩:=h.out
 exact ⟨a,cap,e,hr.2.1,hr.2.2.1,hr.2.2.2.1⟩
theorem zdh:∀(l:List UInt8) (c:UInt8),Lib.indexByte l c=-1->c∉l
 | [],_,_=>by simp
 | b::l,c,h=>by
  have hg:=Lib.indexByte_ge l c
  unfold Lib.indexByte at h
  split at h
  ·omega
  ·rename_i hb
   split at h
   ·rename_i h1
    have:=zdh l c (by simpa using h1)
    simp at hb
    simp [this,Ne.symm hb]
   ·rename_i h1
    simp at h1;omega
theorem zdp:∀(l:List UInt8) (c:UInt8) (i:Nat),Lib.indexByte l c=(i:Int)->∃w t,l=w++c::t/\w.length=i/\c∉w
 | [],_,_,h=>by unfold Lib.indexByte at h;omega
 | b::l,c,i,h=>by
  have hg:=Lib.indexByte_ge l c
  unfold Lib.indexByte at h
  split at h
  ·rename_i hb
   have:b=c:=by simpa using hb
   exact ⟨[],l,by simp [this],by simp;omega,by simp⟩
  ·rename_i hb
   split at h
   ·omega
   ·rename_i h1
    simp at h1
    obtain ⟨w,t,e1,e2,e3⟩:=zdp l c (i-1) (by omega)
    simp at hb
    exact ⟨b::w,t,by simp [e1],by simp;omega,by simp [e3,Ne.symm hb]⟩
set_option maxRecDepth 100000 in
theorem sidx_any (s:ByteArray) (c:Int) (w:World) :
  Calls Tryz.prog 236 #[.string s,.int .u8 c] w fun e w'=>e=.returned (.int .i64 (Lib.indexByte (bl s) c.toNat.toUInt8))/\w=w':=by
 go_enter Tryz.func236,Tryz.ntmps236
 go_wp2
 rw [run_callFunc_extern Tryz.func240 (by kernel_rfl) (by kernel_rfl) (by kernel_rfl) (e:=Extern.BytealgIndexByte.indexByte) (by kernel_rfl),Lib.run_indexByteString]
 simp only [Result.andThen]
 rw [Oper.upon_value]
 go_wp2
 go_ret
 exact ⟨rfl,rfl⟩
theorem sidx2_any (s:ByteArray) (c:Int) (w:World) :
  Calls Tryz.prog 222 #[.string s,.int .u8 c] w fun e w'=>e=.returned (.int .i64 (Lib.indexByte (bl s) c.toNat.toUInt8))/\w=w':=by
 go_enter Tryz.func222,Tryz.ntmps222
 go_wp2_with (go_at_call 236;refine (sidx_any _ _ _).mono ?_;rintro e w' ⟨rfl,rfl⟩)
 go_ret
 exact ⟨rfl,rfl⟩
theorem zeG (s:ByteArray) (w:World) :
  Calls Tryz.prog 241 #[.string s,.string ⟨#[46]⟩] w fun e w'=>e=.returned (.int .i64 (Lib.indexByte (bl s) 46))/\w=w':=by
 obtain ⟨V,hV⟩:∃V,V=Lib.indexByte (bl s) 46:=⟨_,rfl⟩
 rw [<-hV]
 have HV:=ya hV
 clear hV
 by_cases h:s.toList=[46]
 ·have HE:=ya (show V=0 by rw [HV.out,<-toL,h];rfl)
  go_enter Tryz.func241,Tryz.ntmps241
  go_wp2
  go_ret
  exact ⟨zav HE.out.symm,rfl⟩
 ·have h2:([46]==s.toList)=false:=by rw [ye];exact fun e=>h e.symm
  clear h
  go_enter Tryz.func241,Tryz.ntmps241
  go_wp2_with (go_at_call 236;refine (sidx_any _ _ _).mono ?_;rintro e w' ⟨rfl,rfl⟩)
  go_ret
  exact ⟨zav HV.out.symm,rfl⟩
def CutEnd (s:ByteArray) (w:World) (e:Ending) (w':World):Prop :=
 ∃W R:ByteArray,e=.returned (.tuple #[.string W,.string R,.bool (zds (bl s))])/\bl W=zbf (bl s)/\bl R=zb2 (bl s)/\W.size<=s.size/\R.size<=s.size/\∃q,w'=w.drewN q
theorem bl_ext (s:ByteArray) (i j:Nat):bl (s.extract i j)=((bl s).drop i).take (j-i):=by
 unfold bl;rw [ByteArray.data_extract,Array.toList_extract]
theorem bl_to (s:ByteArray) (i:Nat):bl (s.extract 0 i)=(bl s).take i:=by rw [bl_ext];rfl
theorem bl_from (s:ByteArray) (i:Nat):bl (s.extract i s.size)=(bl s).drop i:=by
 rw [bl_ext,List.take_of_length_le]
 rw [yj,zaM];exact ym _
theorem ret_tup3 {a b a' b':ByteArray} {p p':Bool} (h1:a=a') (h2:b=b') (h3:p=p'):Ending.returned (.tuple #[.string a,.string b,.bool p])=Ending.returned (.tuple #[.string a',.string b',.bool p']):=by rw [h1,h2,h3]
theorem cut1_any (s:ByteArray) (w:World) (hs:s.size<=4611686018427387904) :
  Calls Tryz.prog 237 #[.string s,.string ⟨#[46]⟩] w (CutEnd s w):=by
 have hge:=Lib.indexByte_ge (bl s) 46
 by_cases hneg:Lib.indexByte (bl s) 46=-1
 ·have hn:=zdh _ _ hneg
  obtain ⟨t1,t2,t3⟩:=tw_none (bl s) (fun x hx e=>hn (e▸hx))
  have HT:=ya (And.intro t1 (And.intro t2 t3))
  clear t1 t2 t3 hn hge
  go_enter Tryz.func237,Tryz.ntmps237
  go_wp2_with (go_at_call 241;refine (zeG _ _).mono ?_;rintro e w' ⟨rfl,rfl⟩;rw [hneg])
  go_ret3
  exact ⟨s,⟨#[]⟩,ret_tup3 rfl rfl HT.out.2.2.symm,HT.out.1.symm,HT.out.2.1.symm,ym _,Nat.zero_le _,0,rfl⟩
 ·obtain ⟨i,hi⟩:=Int.eq_ofNat_of_zero_le (show 0<=Lib.indexByte (bl s) 46 by omega)
  obtain ⟨a,t,e1,e2,e3⟩:=zdp _ _ _ hi
  have hlen:=congrArg List.length e1
  rw [zaM] at hlen
  simp only [List.length_append,List.length_cons,e2] at hlen
  have hlt:i<s.size:=by omega
  obtain ⟨t1,t2,t3⟩:=tw_app a t (fun x hx e=>e3 (e▸hx))
  have h1:bl (s.extract 0 i)=zbf (bl s):=by rw [bl_to,e1,t1,<-e2];simp
  have h2:bl (s.extract (i+1) s.size)=zb2 (bl s):=by
   rw [bl_from,e1,t2,<-e2,List.drop_append,Nat.add_sub_cancel_left,List.drop_of_length_le (by omega)];rfl
  have HT:=ya (And.intro h1 (And.intro h2 (show zds (bl s)=true by rw [e1];exact t3)))
  have HI:=ya hi
  clear t1 t2 t3 h1 h2 e1 e2 e3 hlen hge hi hneg
  go_enter Tryz.func237,Tryz.ntmps237
  go_wp2_with (go_at_call 241;refine (zeG _ _).mono ?_;rintro e w' ⟨rfl,rfl⟩;rw [HI.out])
  go_quiet (fail)
  go_wp2
  go_ret3
  exact ⟨_,_,ret_tup3 rfl rfl HT.out.2.2.symm,HT.out.1,HT.out.2.1,by rw [ByteArray.size_extract];omega,by rw [ByteArray.size_extract];omega,_,rfl⟩
theorem cut_any (s:ByteArray) (w:World) (hs:s.size<=4611686018427387904) :
  Calls Tryz.prog 223 #[.string s,.string ⟨#[46]⟩] w (CutEnd s w):=by
 have HC:=ya (fun W=>cut1_any s W hs)
 go_enter Tryz.func223,Tryz.ntmps223
 go_wp2_with (go_at_call 237;refine (HC.out _).mono ?_;rintro e w' ⟨W,R,rfl,h1,h2,h3,h4,q,rfl⟩;have H1:=ya h1;have H2:=ya h2;clear h1 h2)
 go_ret3
 exact ⟨W,R,rfl,H1.out,H2.out,h3,h4,q,rfl⟩
def hd1 (s:ByteArray) (c:UInt8):Bool:=decide ((bl s).head?=some c)
theorem pre1_any (s:ByteArray) (c:UInt8) (w:World) (hs:s.size<=4611686018427387904) :
  Calls Tryz.prog 172 #[.string s,.string ⟨#[c]⟩] w fun e w'=>e=.returned (.bool (hd1 s c))/\w=w':=by
 by_cases h0:0<s.size
 ·have hx:(s.extract 0 1).toList=[s[0]]:=by
   rw [toL,bl_to]
   have:=zdQ s 0 h0
   simpa using this
  have HV:=ya (show hd1 s c=(s[0]==c) by
   unfold hd1
   have h1:=bl_drop s 0 h0
   rw [List.drop_zero] at h1
   rw [h1,List.head?_cons,Bool.eq_iff_iff]
   simp)
  have h1:(1:Int)<=s.size:=by omega
  have h1d:decide (1<=s.size)=true:=yb (by omega)
  go_enter Tryz.func172,Tryz.ntmps172
  go_wp2
  go_ret
  exact ⟨zaY HV.out.symm,rfl⟩
 ·have h1:¬(1:Int)<=s.size:=by omega
  have h1d:decide ((1:Int)<=s.size)=false:=by simpa using h1
  have h1e:decide (1<=s.size)=false:=yd (by omega)
  have HV:=ya (show hd1 s c=false by
   unfold hd1
   have h1:bl s=[]:=List.eq_nil_of_length_eq_zero (by rw [zaM];omega)
   rw [h1];rfl)
  go_enter Tryz.func172,Tryz.ntmps172
  go_wp2
  go_ret
  exact ⟨zaY HV.out.symm,rfl⟩
theorem ze7 (s:ByteArray) (c:UInt8) (w:World) (hs:s.size<=4611686018427387904) :
  Calls Tryz.prog 143 #[.string s,.string ⟨#[c]⟩] w fun e w'=>e=.returned (.bool (hd1 s c))/\w=w':=by
 have HC:=ya (fun W=>pre1_any s c W hs)
 go_enter Tryz.func143,Tryz.ntmps143
 go_wp2_with (go_at_call 172;refine (HC.out _).mono ?_;rintro e w' ⟨rfl,rfl⟩)
 go_ret
 exact ⟨rfl,rfl⟩
def spI (x:Int):Bool:=decide (x=0\/x=9\/x=10\/x=12\/x=13\/x=32)
def dlI (x:Int):Bool:=decide (x=40\/x=41\/x=60\/x=62\/x=91\/x=93\/x=123\/x=125\/x=47\/x=37)
theorem zcO (c:UInt8) (n:Nat) (hn:n<256):c=UInt8.ofNat n↔(c.toNat:Int)=(n:Int):=by
 constructor
 ·rintro rfl;rw [UInt8.toNat_ofNat'];omega
 ·intro h;apply UInt8.toNat_inj.1;rw [UInt8.toNat_ofNat'];omega
theorem spI_eq (c:UInt8):isSp c=spI c.toNat:=by
 unfold isSp spI
 rw [Bool.eq_iff_iff]
 simp only [Bool.or_eq_true,beq_iff_eq,decide_eq_true_iff,or_assoc]
 rw [show c=0↔_ from zcO c 0 (by omega),show c=9↔_ from zcO c 9 (by omega),show c=10↔_ from zcO c 10 (by omega),show c=12↔_ from zcO c 12 (by omega),show c=13↔_ from zcO c 13 (by omega),show c=32↔_ from zcO c 32 (by omega)]
 rfl
theorem dlI_eq (c:UInt8):isDl c=dlI c.toNat:=by
 unfold isDl dlI
 rw [Bool.eq_iff_iff]
 simp only [Bool.or_eq_true,beq_iff_eq,decide_eq_true_iff,or_assoc]
 rw [show c=40↔_ from zcO c 40 (by omega),show c=41↔_ from zcO c 41 (by omega),show c=60↔_ from zcO c 60 (by omega),show c=62↔_ from zcO c 62 (by omega),show c=91↔_ from zcO c 91 (by omega),show c=93↔_ from zcO c 93 (by omega),show c=123↔_ from zcO c 123 (by omega),show c=125↔_ from zcO c 125 (by omega),show c=47↔_ from zcO c 47 (by omega),show c=37↔_ from zcO c 37 (by omega)]
 rfl
def rgI (x:Int):Bool:=!spI x&&!dlI x
theorem rgI_eq (c:UInt8):isRg c=rgI c.toNat:=by unfold isRg rgI;rw [spI_eq,dlI_eq]
def hexI (x:Int):Int:=if 48<=x/\x<=57 then x-48 else if 97<=x/\x<=102 then x-87 else if 65<=x/\x<=70 then x-55 else -1
theorem hexI_eq (c:UInt8):hexD c=hexI c.toNat:=by
 unfold hexD hexI
 repeat' split
 all_goals omega
theorem sp_155 (x:Int) (w:World):Calls Tryz.prog 155 #[.int .u8 x] w fun e w'=>e=.returned (.bool (spI x))/\w=w':=by
 obtain ⟨V,hV⟩:∃V,V=spI x:=⟨_,rfl⟩
 rw [<-hV]
 have HV:=ya hV
 clear hV
 by_cases h:x=0\/x=9\/x=10\/x=12\/x=13\/x=32
 ·have HL:=ya (show V=true by rw [HV.out];exact yb h)
  rcases h with rfl|rfl|rfl|rfl|rfl|rfl
  all_goals
   go_enter Tryz.func155,Tryz.ntmps155
   go_wp2
   go_ret
   exact ⟨zaY HL.out.symm,rfl⟩
 ·have HL:=ya (show V=false by rw [HV.out];exact yd h)
  have e0:(x==0)=false:=by rw [ye];omega
  have e1:(x==9)=false:=by rw [ye];omega
  have e2:(x==10)=false:=by rw [ye];omega
  have e3:(x==12)=false:=by rw [ye];omega
  have e4:(x==13)=false:=by rw [ye];omega
  have e5:(x==32)=false:=by rw [ye];omega
  clear h
  go_enter Tryz.func155,Tryz.ntmps155
  go_wp2
  go_ret
  exact ⟨zaY HL.out.symm,rfl⟩
theorem zc0 (x:Int) (w:World):Calls Tryz.prog 155 #[.int .u8 x] w fun e w'=>e=.returned (.bool (spI x))/\w=w':=sp_155 x w
theorem rdelim_any (x:Int) (w:World):Calls Tryz.prog 126 #[.int .u8 x] w fun e w'=>e=.returned (.bool (dlI x))/\w=w':=by
 obtain ⟨V,hV⟩:∃V,V=dlI x:=⟨_,rfl⟩
 rw [<-hV]
 have HV:=ya hV
 clear hV
 by_cases h:x=40\/x=41\/x=60\/x=62\/x=91\/x=93\/x=123\/x=125\/x=47\/x=37
 ·have HL:=ya (show V=true by rw [HV.out];exact yb h)
  rcases h with rfl|rfl|rfl|rfl|rfl|rfl|rfl|rfl|rfl|rfl
  all_goals
   go_enter Tryz.func126,Tryz.ntmps126
   go_wp2
   go_ret
   exact ⟨zaY HL.out.symm,rfl⟩
 ·have HL:=ya (show V=false by rw [HV.out];exact yd h)
  have e0:(x==40)=false:=by rw [ye];omega
  have e1:(x==41)=false:=by rw [ye];omega
  have e2:(x==60)=false:=by rw [ye];omega
  have e3:(x==62)=false:=by rw [ye];omega
  have e4:(x==91)=false:=by rw [ye];omega
  have e5:(x==93)=false:=by rw [ye];omega
  have e6:(x==123)=false:=by rw [ye];omega
  have e7:(x==125)=false:=by rw [ye];omega
  have e8:(x==47)=false:=by rw [ye];omega
  have e9:(x==37)=false:=by rw [ye];omega
  clear h
  go_enter Tryz.func126,Tryz.ntmps126
  go_wp2
  go_ret
  exact ⟨zaY HL.out.symm,rfl⟩
theorem dl_idx (c:UInt8):decide (0<=Lib.indexByte [40,41,60,62,91,93,123,125,47,37] c)=dlI c.toNat:=by
 rw [<-dlI_eq]
 have hg:=Lib.indexByte_ge [40,41,60,62,91,93,123,125,47,37] c
 by_cases h:Lib.indexByte [40,41,60,62,91,93,123,125,47,37] c=-1
 ·have:=zdh _ _ h
  rw [h]
  simp at this
  simp [isDl,this]
 ·obtain ⟨i,hi⟩:=Int.eq_ofNat_of_zero_le (show 0<=Lib.indexByte [40,41,60,62,91,93,123,125,47,37] c by omega)
  obtain ⟨a,t,e,-,-⟩:=zdp _ _ _ hi
  have hm:c∈([40,41,60,62,91,93,123,125,47,37]:List UInt8):=by rw [e];simp
  rw [hi,yb (by omega)]
  simp at hm
  rcases hm with rfl|rfl|rfl|rfl|rfl|rfl|rfl|rfl|rfl|rfl<;>rfl
theorem u8_back (c:UInt8):((c.toNat:Int)).toNat.toUInt8=c:=by simp
theorem delim_any (c:UInt8) (w:World):Calls Tryz.prog 197 #[.int .u8 c.toNat] w fun e w'=>e=.returned (.bool (dlI c.toNat))/\w=w':=by
 have HV:=ya (dl_idx c)
 have hS:=fun W=>sidx2_any ⟨#[40,41,60,62,91,93,123,125,47,37]⟩ (c.toNat:Int) W
 rw [u8_back] at hS
 have hS2:∀W,Calls Tryz.prog 222 #[.string ⟨#[40,41,60,62,91,93,123,125,47,37]⟩,.int .u8 c.toNat] W fun e w'=>e=.returned (.int .i64 (Lib.indexByte [40,41,60,62,91,93,123,125,47,37] c))/\W=w':=hS
 have HS:=ya hS2
 clear hS hS2
 generalize dlI c.toNat=V at *
 generalize Lib.indexByte [40,41,60,62,91,93,123,125,47,37] c=I at *
 go_enter Tryz.func197,Tryz.ntmps197
 go_wp2_with (go_at_call 222;refine (HS.out _).mono ?_;rintro e w' ⟨rfl,rfl⟩)
 go_ret
 exact ⟨zaY HV.out,rfl⟩
theorem zeT (c:UInt8) (w:World):Calls Tryz.prog 177 #[.int .u8 c.toNat] w fun e w'=>e=.returned (.bool (rgI c.toNat))/\w=w':=by
 have HV:=ya (show rgI c.toNat=(!spI c.toNat&&!dlI c.toNat) from rfl)
 have HS:=ya (fun W=>zc0 c.toNat W)
 have HD:=ya (fun W=>delim_any c W)
 generalize dlI c.toNat=b at *
 generalize spI c.toNat=a at *
 generalize rgI c.toNat=V at *
 cases a
 all_goals
  go_enter Tryz.func177,Tryz.ntmps177
  go_wp2_with (first
   |(go_at_call 155;refine (HS.out _).mono ?_;rintro e w' ⟨rfl,rfl⟩)
   |(go_at_call 197;refine (HD.out _).mono ?_;rintro e w' ⟨rfl,rfl⟩))
  go_ret
  exact ⟨zaY (by rw [HV.out];rfl),rfl⟩
theorem hx_205 (x:Int) (w:World) (h0:0<=x) (h1:x<=255):Calls Tryz.prog 205 #[.int .u8 x] w fun e w'=>e=.returned (.int .i64 (hexI x))/\w=w':=by
 obtain ⟨V,hV⟩:∃V,V=hexI x:=⟨_,rfl⟩
 rw [<-hV]
 unfold hexI at hV
 have d48:∀b,decide (48<=x)=b->decide (48<=x)=b:=fun _ h=>h
 by_cases ha:48<=x
 ·by_cases hb:x<=57
  ·rw [yf ⟨ha,hb⟩] at hV
   have HV:=ya hV
   clear hV
   go_enter Tryz.func205,Tryz.ntmps205
   go_wp2
   go_ret
   exact ⟨zav (by rw [HV.out]),rfl⟩
  ·rw [yg (by omega)] at hV
   have hbd:decide (x<=57)=false:=by simpa using hb
   by_cases hc:97<=x
   ·by_cases hd:x<=102
    ·rw [yf ⟨hc,hd⟩] at hV
     have HV:=ya hV
     clear hV hb
     go_enter Tryz.func205,Tryz.ntmps205
     go_wp2
     go_ret
     exact ⟨zav (by have:=HV.out;omega),rfl⟩
    ·rw [yg (by omega),yg (by omega)] at hV
     have hdd:decide (x<=102)=false:=by simpa using hd
     have he:65<=x:=by omega
     have hfd:decide (x<=70)=false:=by simp;omega
     have HV:=ya hV
     clear hV hb hd
     go_enter Tryz.func205,Tryz.ntmps205
     go_wp2
     go_ret
     exact ⟨zav (by rw [HV.out]),rfl⟩
   ·rw [yg (by omega)] at hV
    have hcd:decide (97<=x)=false:=by simpa using hc
    by_cases he:65<=x
    ·by_cases hf:x<=70
     ·rw [yf ⟨he,hf⟩] at hV
      have HV:=ya hV
      clear hV hb hc
      go_enter Tryz.func205,Tryz.ntmps205
      go_wp2
      go_ret
      exact ⟨zav (by have:=HV.out;omega),rfl⟩
     ·rw [yg (by omega)] at hV
      have hfd:decide (x<=70)=false:=by simpa using hf
      have HV:=ya hV
      clear hV hb hc hf
      go_enter Tryz.func205,Tryz.ntmps205
      go_wp2
      go_ret
      exact ⟨zav (by rw [HV.out]),rfl⟩
    ·rw [yg (by omega)] at hV
     have hed:decide (65<=x)=false:=by simpa using he
     have HV:=ya hV
     clear hV hb hc he
     go_enter Tryz.func205,Tryz.ntmps205
     go_wp2
     go_ret
     exact ⟨zav (by rw [HV.out]),rfl⟩
 ·rw [yg (by omega),yg (by omega),yg (by omega)] at hV
  have had:decide (48<=x)=false:=by simpa using ha
  have hcd:decide (97<=x)=false:=yd (by omega)
  have hed:decide (65<=x)=false:=yd (by omega)
  have HV:=ya hV
  clear hV ha d48
  go_enter Tryz.func205,Tryz.ntmps205
  go_wp2
  go_ret
  exact ⟨zav (by rw [HV.out]),rfl⟩
theorem hex_any (c:UInt8) (w:World):Calls Tryz.prog 205 #[.int .u8 c.toNat] w fun e w'=>e=.returned (.int .i64 (hexD c))/\w=w':=by
 rw [hexI_eq];exact hx_205 _ w (by omega) (by have:=c.toNat_lt;omega)
theorem zad {B:Nat} {a w:World} (h:Below B a w) (n:Nat):Below B a (w.drewN n):=⟨h.os,h.tape,h.output,h.size,h.block⟩
def u8C (b:UInt8):Value:=.int .u8 b.toNat
structure Src where
 a:Option Addr
 cap:Nat
 bs:List UInt8
 yo:Bool
def scV (X:Src) (ad v:Value) (k:Nat):Array Value:=#[ad,v,.slice X.a X.bs.length X.cap,.int .i64 k,.bool X.yo]
structure IsSc (w:World) (S:Nat->Prop) (p:Nat) (X:Src) (out:List UInt8) (k:Nat) (ad v:Value):Prop where
 blk:w.heap[p]?=some (.cells (scV X ad v k) 240 (0,0))
 ad_:ad=.pointer none\/ad=.pointer (some ⟨p,0,none⟩)
 row:w.ownsRow (p+1) 5 1 v out.length (out.map u8C)
 at_:∀b,v.ownBlock=some b->S b
 own:S p
 lt:∀b,S b->p<=b/\b<w.heap.size
 src:Row w 1 X.a X.bs.length X.cap (X.bs.map u8C)
 srcb:∀x,X.a=some x->x.block<p
 le:k<=X.bs.length
 small:X.bs.length<=400000
 outl:out.length<=k
 nil_:out=[]->v=.slice none 0 0
def ScQ (w:World) (S:Nat->Prop) (p:Nat) (X:Src) (out:List UInt8) (k:Nat):Prop:=∃ad v,IsSc w S p X out k ad v
def zam (w:World) (S:Nat->Prop) (p:Nat) (X:Src) (out:List UInt8) (k:Nat) (w':World):Prop:=∃S',ScQ w' S' p X out k/\zae S w w'/\∀b,S' b->S b\/w.heap.size<=b
theorem zam.refl {w:World} {S:Nat->Prop} {p:Nat} {X:Src} {out:List UInt8} {k:Nat} (h:ScQ w S p X out k):zam w S p X out k w:=⟨S,h,zae.refl _ _,fun _ h=>.inl h⟩
theorem zam.trans {w w1 w2:World} {S S1:Nat->Prop} {p:Nat} {X:Src} {out:List UInt8} {k:Nat} (hk:zae S w w1) (hs:∀b,S1 b->S b\/w.heap.size<=b) (h2:zam w1 S1 p X out k w2):zam w S p X out k w2:=by
 obtain ⟨S2,q,k2,s⟩:=h2
 exact ⟨S2,q,hk.trans k2 hs,fun b hb=>(s b hb).elim (hs b) (fun h=>.inr (Nat.le_trans hk.size h))⟩
theorem IsSc.keep {w w':World} {S:Nat->Prop} {p:Nat} {X:Src} {out:List UInt8} {k:Nat} {ad v:Value} (h:IsSc w S p X out k ad v) (hb:Below w.heap.size w w'):IsSc w' S p X out k ad v :=
 ⟨zaa hb h.blk,h.ad_,zaH h.row hb,h.at_,h.own,fun b hS=>⟨(h.lt b hS).1,Nat.lt_of_lt_of_le (h.lt b hS).2 hb.size⟩,h.src.mono hb,h.srcb,h.le,h.small,h.outl,h.nil_⟩
theorem ScQ.keep {w w':World} {S:Nat->Prop} {p:Nat} {X:Src} {out:List UInt8} {k:Nat} (h:ScQ w S p X out k) (hb:Below w.heap.size w w'):ScQ w' S p X out k:=by
 obtain ⟨ad,v,h⟩:=h;exact ⟨ad,v,h.keep hb⟩
theorem ScQ.drewN {w:World} {S:Nat->Prop} {p:Nat} {X:Src} {out:List UInt8} {k:Nat} (h:ScQ w S p X out k) (q:Nat):ScQ (w.drewN q) S p X out k:=h.keep (zad (Below.refl _ _) q)
theorem IsSc.cells {w:World} {S:Nat->Prop} {p:Nat} {X:Src} {out:List UInt8} {k:Nat} {ad v:Value} (h:IsSc w S p X out k ad v) :
  w.cell? ⟨p,0,none⟩=some ad/\w.cell? ⟨p,1,none⟩=some v/\w.cell? ⟨p,2,none⟩=some (.slice X.a X.bs.length X.cap)/\w.cell? ⟨p,3,none⟩=some (.int .i64 k)/\w.cell? ⟨p,4,none⟩=some (.bool X.yo):=by
 refine ⟨?_,?_,?_,?_,?_⟩<;>(rw [cell_of_row w p _ _ _ _ h.blk];rfl)
theorem IsSc.free {w:World} {S:Nat->Prop} {p:Nat} {X:Src} {out:List UInt8} {k:Nat} {ad v:Value} (h:IsSc w S p X out k ad v) (j:Nat):w.frozen? ⟨p,j,none⟩=false:=frozen_of_row w p j _ _ h.blk
theorem IsSc.byte {w:World} {S:Nat->Prop} {p:Nat} {X:Src} {out:List UInt8} {k:Nat} {ad v:Value} (h:IsSc w S p X out k ad v) (hk:k<X.bs.length) :
  ∃b off,X.a=some ⟨b,off,none⟩/\w.cell? ⟨b,off+k,none⟩=some (u8C (X.bs.getD k 0)):=by
 obtain ⟨b,off,ha,_,hc⟩:=h.src.at 0 k hk
 exact ⟨b,off,ha,hc k hk⟩
theorem IsSc.move {w:World} {S:Nat->Prop} {p:Nat} {X:Src} {out:List UInt8} {k:Nat} {ad v:Value} (h:IsSc w S p X out k ad v) (k':Nat) (hk:k'<=X.bs.length) (hk2:k<=k'):zam w S p X out k' (w.setCell ⟨p,3,none⟩ (.int .i64 k')):=by
 have hb:w.heap[p]?=some (.cells (scV X ad v k) 240 (0,0)):=h.blk
 have hp:=(h.lt p h.own).2
 refine ⟨S,⟨ad,v,⟨?_,h.ad_,?_,h.at_,h.own,fun b hS=>by have:=h.lt b hS;simpa using this,?_,h.srcb,hk,h.small,by have:=h.outl;omega,h.nil_⟩⟩,(zae.refl S w).setCell (.inl h.own) _,fun _ hS=>.inl hS⟩
 ·rw [heap_setCell_same _ _ 3 _ _ _ hb];rfl
 ·exact ownsRow_setCell_other h.row (a:=⟨p,3,none⟩) (fun e=>by have:=(h.row.lt p e).1;omega) _
 ·exact h.src.keeps (S:=fun b=>b=p) ((zae.refl (fun b=>b=p) w).setCell (a:=⟨p,3,none⟩) (.inl rfl) _) (fun x hx e=>by have:=h.srcb x hx;omega)
def zed (X:Src) (k:Nat):Value:=if k<X.bs.length then .tuple #[u8C (X.bs.getD k 0),.bool true] else .tuple #[.int .u8 0,.bool false]
theorem zcf {w:World} {S:Nat->Prop} {p:Nat} {X:Src} {out:List UInt8} {k:Nat} (h:ScQ w S p X out k) :
  Calls Tryz.prog 199 #[.pointer (some ⟨p,0,none⟩)] w fun e w'=>e=.returned (zed X k)/\∃q,w'=w.drewN q:=by
 obtain ⟨ad,v,h⟩:=h
 obtain ⟨c0,c1,c2,c3,c4⟩:=h.cells
 have hsm:=h.small
 have hle:=h.le
 obtain ⟨V,hV⟩:∃V,V=zed X k:=⟨_,rfl⟩
 rw [<-hV]
 unfold zed at hV
 by_cases hk:k<X.bs.length
 ·obtain ⟨b,off,ha,hc⟩:=h.byte hk
  rw [yf hk] at hV
  have HV:=ya hV
  rw [ha] at c2
  unfold u8C at hc HV
  generalize (X.bs.getD k 0).toNat=x at *
  generalize X.bs.length=n at *
  have hkd:decide ((n:Int)<=k)=false:=yd (by omega)
  have hki:(k:Int)<n:=by omega
  clear hV h ha
  go_enter Tryz.func199,Tryz.ntmps199
  go_wp2
  go_quiet (fail)
  go_wp2
  go_quiet (fail)
  go_wp2
  go_ret2
  exact ⟨by rw [HV.out];rfl,by simp only [World.drewN_drewN];exact ⟨_,rfl⟩⟩
 ·rw [yg hk] at hV
  have HV:=ya hV
  generalize X.bs.length=n at *
  have hkd:decide ((n:Int)<=k)=true:=yb (by omega)
  clear hV h
  go_enter Tryz.func199,Tryz.ntmps199
  go_wp2
  go_quiet (fail)
  go_wp2
  go_ret2
  exact ⟨by rw [HV.out];rfl,_,rfl⟩
theorem zc4 {w:World} {S:Nat->Prop} {p:Nat} {X:Src} {out:List UInt8} {k:Nat} (h:ScQ w S p X out k) :
  Calls Tryz.prog 200 #[.pointer (some ⟨p,0,none⟩)] w fun e w'=>e=.returned (.int .i64 (zbt X.yo))/\w=w':=by
 obtain ⟨ad,v,h⟩:=h
 obtain ⟨-,-,-,-,c4⟩:=h.cells
 have HV:=ya (show zbt X.yo=if X.yo=true then 10 else 6 by unfold zbt;cases X.yo<;>rfl)
 clear h
 generalize zbt X.yo=V at *
 generalize X.yo=l at *
 cases l
 all_goals
  go_enter Tryz.func200,Tryz.ntmps200
  go_wp2
  go_ret
  exact ⟨zav (by rw [HV.out];rfl),rfl⟩
theorem infoBuilder:(Tryz.prog.info? 228).map (·.size)=some 2:=by kernel_rfl
theorem liesBuilder:liesAt Tryz.prog Tryz.prog.depth 240 (5 / Tryz.prog.cellsOf 240) 0 228 1=true:=by kernel_rfl
theorem EByte:zdM Tryz.prog 22 5 (.int .u8 0) 1 1:=⟨Tryz.underlying22,by kernel_rfl,rfl,by omega⟩
theorem cellsByte:Tryz.prog.cellsOf 5=1:=by kernel_rfl
def Chk (w:World) (S:Nat->Prop) (p:Nat) (X:Src) (out:List UInt8) (k:Nat) (v:Value) (e:Ending) (w':World):Prop :=
 e=.returned (.tuple #[])/\IsSc w' S p X out k (.pointer (some ⟨p,0,none⟩)) v/\zae S w w'/\w'.heap.size=w.heap.size
theorem IsSc.mark {w:World} {S:Nat->Prop} {p:Nat} {X:Src} {out:List UInt8} {k:Nat} {ad v:Value} (h:IsSc w S p X out k ad v) :
  IsSc (w.setCell ⟨p,0,none⟩ (.pointer (some ⟨p,0,none⟩))) S p X out k (.pointer (some ⟨p,0,none⟩)) v:=by
 have hp:=(h.lt p h.own).2
 refine ⟨?_,.inr rfl,ownsRow_setCell_other h.row (a:=⟨p,0,none⟩) (fun e=>by have:=(h.row.lt p e).1;omega) _,h.at_,h.own,fun b hS=>by have:=h.lt b hS;simpa using this,?_,h.srcb,h.le,h.small,h.outl,h.nil_⟩
 ·rw [heap_setCell_same _ _ 0 _ _ _ h.blk];rfl
 ·exact h.src.keeps (S:=fun b=>b=p) ((zae.refl (fun b=>b=p) w).setCell (a:=⟨p,0,none⟩) (.inl rfl) _) (fun x hx e=>by have:=h.srcb x hx;omega)
set_option maxRecDepth 100000 in
theorem zgx {w:World} {S:Nat->Prop} {p:Nat} {X:Src} {out:List UInt8} {k:Nat} {ad v:Value} (h:IsSc w S p X out k ad v) :
  Calls Tryz.prog 173 #[.pointer (some ⟨p,0,none⟩)] w (Chk w S p X out k v):=by
 obtain ⟨j,hj,hjs⟩:=Option.map_eq_some_iff.1 infoBuilder
 obtain ⟨c0,-⟩:=h.cells
 have hfz:=h.free 0
 have hsh:w.shape? p=some (240,5):=by have:=h.blk;simp [World.shape?,this,scV]
 rcases h.ad_ with rfl|rfl
 ·have HM:=ya h.mark
  have HK:=ya ((zae.refl S w).setCell (a:=⟨p,0,none⟩) (.inl h.own) (.pointer (some ⟨p,0,none⟩)))
  clear h
  go_enter Tryz.func173,Tryz.ntmps173
  go_wp2
  rw [Lib.run_to_unsafe w ⟨p,0,none⟩ Tryz.underlying226 Tryz.underlying273 hj (by rw [hjs];decide) hsh (Nat.succ_pos 4)]
  simp only [Result.andThen]
  rw [Oper.upon_value]
  go_wp2
  rw [run_callFunc_extern Tryz.func194 (by kernel_rfl) (by kernel_rfl) (by kernel_rfl) (e:=Extern.AbiNoEscape.same) (by kernel_rfl)]
  rw [Lib.run_noEscape]
  simp only [Result.andThen]
  rw [Oper.upon_value]
  go_wp2
  rw [Lib.run_from_unsafe w ⟨p,0,none⟩ Tryz.underlying273 Tryz.underlying226 hj hsh liesBuilder]
  simp only [Result.andThen]
  rw [Oper.upon_value]
  go_wp2
  go_end0
  exact ⟨rfl,HM.out,HK.out,by simp⟩
 ·have HM:=ya h
  clear h
  go_enter Tryz.func173,Tryz.ntmps173
  go_wp2
  rw [Lib.run_neq_ptr_same w _ Tryz.underlying226 hj]
  go_wp2
  go_end0
  exact ⟨rfl,HM.out,zae.refl _ _,rfl⟩
theorem IsSc.put {w w2:World} {S:Nat->Prop} {p:Nat} {X:Src} {out:List UInt8} {k:Nat} {v v':Value} (c:UInt8) (hk:out.length<k) (h:IsSc w S p X out k (.pointer (some ⟨p,0,none⟩)) v) (o:Obj)
  (hr:w2.ownsRow (p+1) 5 1 v' (out.length+1) (out.map u8C++[u8C c])) (hg:(w.alloc o).grownBy w2 v.ownBlock) (hn:NewAt (w.alloc o) v v') :
  zam w S p X (out++[c]) k (w2.setCell ⟨p,1,none⟩ v'):=by
 have hp:=(h.lt p h.own).2
 have hvb:∀b,v.ownBlock=some b->p<b:=fun b hb=>(h.row.lt b hb).1
 have h1:w2.heap[p]?=some (.cells (scV X (.pointer (some ⟨p,0,none⟩)) v k) 240 (0,0)) :=
  (hg.block p (by rw [zan];omega) (fun e=>by have:=hvb p e.symm;omega)).trans ((Below.heap_alloc w o p hp).trans h.blk)
 have hk1:zae S w w2:=((zae.refl S w).alloc o).grown hg (fun k hk=>.inl (h.at_ k hk))
 have hk2:=hk1.setCell (a:=⟨p,1,none⟩) (.inl h.own) v'
 have hsz:=hk2.size
 refine ⟨fun b=>S b\/(p<=b/\w.heap.size<=b/\b<(w2.setCell ⟨p,1,none⟩ v').heap.size),⟨.pointer (some ⟨p,0,none⟩),v',⟨?_,.inr rfl,?_,fun b hb=>?_,.inl h.own,fun b hb=>?_,?_,h.srcb,h.le,h.small,by simp;omega,fun e=>by simp at e⟩⟩,hk2,fun b hb=>?_⟩
 ·rw [heap_setCell_same _ _ 1 _ _ _ h1];rfl
 ·have:=ownsRow_setCell_other hr (a:=⟨p,1,none⟩) (fun e=>by have:=(hr.lt p e).1;omega) v'
  simpa using this
 ·have hlt:=(hr.lt b hb)
  rcases hn b hb with h2|h2
  ·exact .inl (h.at_ b h2)
  ·rw [zan] at h2
   exact .inr ⟨by omega,by omega,by simpa using hlt.2⟩
 ·rcases hb with hb|hb
  ·have:=h.lt b hb;omega
  ·exact ⟨hb.1,hb.2.2⟩
 ·exact h.src.keeps hk2 (fun x hx e=>by have h1:=h.srcb x hx;have h2:=(h.lt x.block e).1;omega)
 ·rcases hb with hb|hb
  ·exact .inl hb
  ·exact .inr hb.2.1
set_option maxRecDepth 100000 in
theorem zaG {w:World} {S:Nat->Prop} {p:Nat} {X:Src} {out:List UInt8} {k:Nat} (h:ScQ w S p X out k) (c:UInt8) (x:Int) (hx:x=(c.toNat:Int)) (hk:out.length<k) :
  Calls Tryz.prog 204 #[.pointer (some ⟨p,0,none⟩),.int .u8 x] w fun e w'=>e=.returned .nilIface/\zam w S p X (out++[c]) k w':=by
 obtain ⟨ad,v,h⟩:=h
 have HC:=ya (zgx h)
 unfold Chk at HC
 have hXC:Value.int .u8 x=u8C c:=by rw [hx];rfl
 have HX:=ya hXC
 have hsm:=h.small
 have hle:=h.le
 have hol:=h.outl
 clear h hx hXC
 go_enter Tryz.func204,Tryz.ntmps204
 go_wp2_with fail
 refine HC.out.mono ?_
 rintro e w1 ⟨rfl,h1,hk1,hs1⟩
 have H1:=ya h1
 have HK1:=ya hk1
 have HS1:=ya hs1
 obtain ⟨-,c1,-⟩:=h1.cells
 have hf1:=h1.free 1
 have hp1:=(h1.lt p h1.own).2
 clear h1 hk1 hs1
 go_wp2_with (at_builtin;refine append_at EByte rfl (.tmp 11) (.tmp 13) rfl (p+1) _ out.length _ rfl (H1.out.row.alloc _) _ 1 _ _ rfl (zes _ _ _) (zgL rfl) (by unfold maxLen;omega) (by omega) (by rw [zan];omega) ?_;intro v' w2 hO2 hg2 hn2;obtain ⟨a',cap',hv',-⟩:=Row.of_owns hO2;subst hv';rw [HX.out] at hO2;have HN:=ya (H1.out.put c hk _ hO2 hg2 hn2);have hp2:p<w2.heap.size:=(by have:=hg2.size;rw [zan] at this;omega);have hfz2:w2.frozen? ⟨p,1,none⟩=false:=(frozen_of_row w2 p 1 _ _ ((hg2.block p (by rw [zan];omega) (fun e=>by have:=(H1.out.row.lt p e.symm).1;omega)).trans ((Below.heap_alloc w1 _ p hp1).trans H1.out.blk)));have hc2:w2.cell? ⟨p,1,none⟩=some v:=((cell_of_row w2 p 1 _ _ _ ((hg2.block p (by rw [zan];omega) (fun e=>by have:=(H1.out.row.lt p e.symm).1;omega)).trans ((Below.heap_alloc w1 _ p hp1).trans H1.out.blk))).trans rfl);clear hO2 hg2 hn2)
 go_ret
 exact ⟨rfl,zam.trans HK1.out (fun b hb=>.inl hb) HN.out⟩
theorem zeb {S:Nat->Prop} {w:World} {a:Addr} (h:S a.block) (n:Nat):zae S w (w.freeze a n):=by
 unfold World.freeze
 split
 ·exact zae.refl _ _
 ·exact ⟨rfl,rfl,rfl,by simp,fun b _ hn=>by
   simp only [Array.getElem?_modify]
   rw [yg (fun e:a.block=b=>hn (e▸h))]⟩
set_option maxRecDepth 100000 in
theorem zdG {w:World} {S:Nat->Prop} {p:Nat} {X:Src} {out:List UInt8} {k:Nat} (h:ScQ w S p X out k) :
  Calls Tryz.prog 147 #[.pointer (some ⟨p,0,none⟩)] w fun e w'=>e=.returned (.string (mkB out))/\zae S w w'/\w'.heap[p]?=w.heap[p]?:=by
 obtain ⟨ad,v,h⟩:=h
 obtain ⟨-,c1,-⟩:=h.cells
 by_cases h0:out=[]
 ·have hv:=h.nil_ h0
  subst h0
  subst hv
  have hUS:=fun (W:World) (q:Option Addr)=>Lib.run_unsafeString_none (P:=Tryz.prog) W 257 3 9 q
  have c1':w.drew.cell? ⟨p,1,none⟩=some (.slice none 0 0):=c1
  have hSD:(Builtin.unsafeSliceData_ #[22] 257 #[.slice none 0 0]).run Tryz.prog w.drew=.ok (.pointer none) w.drew:=rfl
  have HK:=ya (show zae S w w.drew/\w.drew.heap[p]?=w.heap[p]? from ⟨(zae.refl S w).drewN 1,rfl⟩)
  clear h
  go_enter Tryz.func147,Tryz.ntmps147
  go_wp2
  go_region
  all_goals
   go_wp2
   go_ret
   exact ⟨rfl,HK.out⟩
 ·have hl0:out.length≠0:=by simpa using h0
  obtain ⟨g,cap,cur,rfl,hbg,hg,hnc,hcm,hcs,htake⟩:∃g cap cur,v=.slice (some ⟨g,0,none⟩) out.length cap/\p+1<=g/\w.heap[g]?=some (.cells cur 5 (0,0))/\out.length<=cap/\cap<=maxLen/\cur.size=cap*1/\cur.toList.take (out.length*1)=out.map u8C:=by
   rcases h.row.2 with ⟨_,hz⟩|⟨g,cap,cur,hv,r⟩
   ·exact absurd hz hl0
   ·exact ⟨g,cap,cur,hv,r⟩
  have c1':w.drew.cell? ⟨p,1,none⟩=some (.slice (some ⟨g,0,none⟩) out.length cap):=c1
  have hSD:(Builtin.unsafeSliceData_ #[22] 257 #[.slice (some ⟨g,0,none⟩) out.length cap]).run Tryz.prog w.drew=.ok (.pointer (some ⟨g,0,none⟩)) w.drew :=
   Lib.run_unsafeSliceData_row _ _ _ _ _ _ (by omega)
  have hUS:(Builtin.unsafeString_ #[257,3] 9 #[.pointer (some ⟨g,0,none⟩),.int .i64 out.length]).run Tryz.prog w.drew=.ok (.string ⟨out.toArray⟩) (w.drew.freeze ⟨g,0,none⟩ out.length):=by
   refine Lib.run_unsafeString_row w.drew 257 3 9 5 Tryz.underlying257 cellsByte g cur.size (by have hg':w.drew.heap[g]?=some (.cells cur 5 (0,0)):=hg;simp [World.shape?,hg']) out h0 (by omega) (by unfold maxLen at hcm;omega) ?_
   intro j x hx
   exact h.row.cells (g:=g) rfl j (u8C x) (by simp [hx])
  have HK:=ya (show zae S w (w.drew.freeze ⟨g,0,none⟩ out.length)/\(w.drew.freeze ⟨g,0,none⟩ out.length).heap[p]?=w.heap[p]? from ⟨zae.trans ((zae.refl S w).drewN 1) (zeb (S:=S) (h.at_ g rfl) _) (fun _ hx=>.inl hx),((zeb (S:=fun b=>b=g) (w:=w.drew) (a:=⟨g,0,none⟩) rfl out.length).block p (h.lt p h.own).2 (fun e=>by omega)).trans rfl⟩)
  clear h htake hcs hg
  go_enter Tryz.func147,Tryz.ntmps147
  go_wp2
  go_region
  all_goals
   go_wp2
   go_ret
   exact ⟨rfl,HK.out⟩
def zdE (w:World) (S:Nat->Prop) (p:Nat) (X:Src) (V:Option (List UInt8×Nat)) (e:Ending) (w':World):Prop :=
 match V with
 | none=>e=.returned (.bool false)/\∃out k,zam w S p X out k w'
 | some (out,k)=>e=.returned (.bool true)/\zam w S p X out k w'
theorem zaS {l:List UInt8} {k:Nat} (h:k<l.length):l.drop k=l.getD k 0::l.drop (k+1):=by rw [List.drop_eq_getElem_cons h];simp [List.getD,h]
theorem zbP {l:List UInt8} {k:Nat} (h:¬k<l.length):l.drop k=[]:=List.drop_of_length_le (by omega)
theorem zam.drew {w:World} {S:Nat->Prop} {p:Nat} {X:Src} {out:List UInt8} {k:Nat} (q:Nat) {w':World} (h:zam (w.drewN q) S p X out k w'):zam w S p X out k w' :=
 zam.trans ((zae.refl S w).drewN q) (fun _ h=>.inl h) h
theorem line_any {w:World} {S:Nat->Prop} {p:Nat} {X:Src} {out:List UInt8} {k:Nat} (h:ScQ w S p X out k) :
  Calls Tryz.prog 203 #[.pointer (some ⟨p,0,none⟩),.int .u8 13] w (zdE w S p X ((zfd X.yo (X.bs.drop k)).map fun j=>(out,k+j))):=by
 have hP:=zcf h
 obtain ⟨V,hV⟩:∃V,V=(zfd X.yo (X.bs.drop k)).map fun j=>(out,k+j):=⟨_,rfl⟩
 rw [<-hV]
 unfold zed at hP
 by_cases hk:k<X.bs.length
 ·rw [yf hk] at hP
  rw [zaS hk] at hV
  simp only [zfd,Option.map_some] at hV
  have HQ:=ya h
  have HP:=ya hP
  have hsm:X.bs.length<=400000:=by obtain ⟨_,_,h⟩:=h;exact h.small
  unfold u8C at HP
  by_cases h10:X.bs.getD k 0=10
  ·rw [yf h10] at hV
   have HV:=ya hV
   rw [h10] at HP
   clear hV hP h h10
   go_enter Tryz.func203,Tryz.ntmps203
   go_wp2_with fail
   refine HP.out.mono ?_
   rintro e w1 ⟨rfl,q,rfl⟩
   have h1:=HQ.out.drewN q
   obtain ⟨ad,v,h1⟩:=h1
   obtain ⟨-,-,-,c3,-⟩:=h1.cells
   have f3:=h1.free 3
   have HM:=ya (zam.drew q (h1.move (k+1) (by omega) (by omega)))
   clear h1
   go_wp2
   go_ret
   rw [HV.out]
   exact ⟨rfl,HM.out⟩
  ·rw [yg h10] at hV
   have HV:=ya hV
   have h10d:(((X.bs.getD k 0).toNat:Int)==10)=false:=by
    rw [ye];intro e;exact h10 (UInt8.toNat_inj.1 (Int.ofNat_inj.1 e))
   generalize (X.bs.getD k 0).toNat=x at *
   clear hV hP h h10
   go_enter Tryz.func203,Tryz.ntmps203
   go_wp2_with fail
   refine HP.out.mono ?_
   rintro e w1 ⟨rfl,q,rfl⟩
   have HN:=ya (zam.drew q (zam.refl (HQ.out.drewN q)))
   go_wp2
   go_ret
   rw [HV.out]
   exact ⟨rfl,HN.out⟩
 ·rw [yg hk] at hP
  rw [zbP hk] at hV
  simp only [zfd] at hV
  have HV:=ya hV
  have HQ:=ya h
  have HP:=ya hP
  clear hV hP h hk
  obtain ⟨l,hl⟩:∃l,X.yo=l:=⟨_,rfl⟩
  rw [hl] at HV
  have HL:=ya hl
  clear hl
  cases l
  all_goals
   go_enter Tryz.func203,Tryz.ntmps203
   go_wp2_with fail
   refine HP.out.mono ?_
   rintro e w1 ⟨rfl,q,rfl⟩
   have h1:=HQ.out.drewN q
   have HN:=ya (zam.drew q (zam.refl h1))
   obtain ⟨ad,v,h1⟩:=h1
   obtain ⟨-,-,-,-,c4⟩:=h1.cells
   rw [HL.out] at c4
   clear h1
   go_wp2
   go_ret
   rw [HV.out]
  ·exact ⟨rfl,_,_,HN.out⟩
  ·exact ⟨rfl,HN.out⟩
def zdR (yo:Bool):Nat->Nat->List UInt8->Option (Nat×Nat)
 | 0,N,_=>some (N,0)
 | _+1,N,[]=>if yo then some (N,0) else none
 | m+1,N,d::t=>if isOc d=true then (zdR yo m (8*N+(d.toNat-48)) t).map (fun x=>(x.1,x.2+1)) else some (N,0)
theorem octV_go (yo:Bool) (c:UInt8) (l:List UInt8):octV yo c l=(zdR yo 2 (c.toNat-48) l).map fun x=>(x.1,x.2+1):=by
 cases l with
 | nil=>cases yo<;>rfl
 | cons d t =>
  by_cases hd:isOc d=true
  ·cases t with
   | nil=>cases yo<;>simp [octV,zdR,hd]
   | cons e u =>
    by_cases he:isOc e=true
    ·simp [octV,zdR,hd,he]
    ·simp [octV,zdR,hd,he]
  ·simp [octV,zdR,hd]
theorem zc8 {c:UInt8}:isOc c=true↔48<=c.toNat/\c.toNat<=55:=by unfold isOc;simp
theorem zde (N:Nat):IntKind.u8.wrap (N:Int)=((UInt8.ofNat N).toNat:Int):=by rw [IntKind.wrap_u8,UInt8.toNat_ofNat'];omega
theorem zf9 {w w1 w2:World} {S S1:Nat->Prop} {p:Nat} {X:Src} {o2:List UInt8} {k2:Nat} (hk:zae S w w1) (hs:∀b,S1 b->S b\/w.heap.size<=b) (hN:zam w1 S1 p X o2 k2 w2) (V:Option (List UInt8×Nat)) (hV:V=some (o2,k2)) :
  zdE w S p X V (.returned (.bool true)) w2:=by
 subst hV
 exact ⟨rfl,zam.trans hk hs hN⟩
theorem octal_any {w:World} {S:Nat->Prop} {p:Nat} {X:Src} {out:List UInt8} {k:Nat} (h:ScQ w S p X out k) (c:UInt8) (hc:isOc c=true) (hk:out.length<k) :
  Calls Tryz.prog 227 #[.pointer (some ⟨p,0,none⟩),.int .u8 c.toNat] w (zdE w S p X ((zdR X.yo 2 (c.toNat-48) (X.bs.drop k)).map fun x=>(out++[UInt8.ofNat x.1],k+x.2))):=by
 obtain ⟨V,hV⟩:∃V,V=(zdR X.yo 2 (c.toNat-48) (X.bs.drop k)).map fun x=>(out++[UInt8.ofNat x.1],k+x.2):=⟨_,rfl⟩
 rw [<-hV]
 have hc2:=zc8.1 hc
 have HV:=ya hV
 have HN:=ya (zam.refl h)
 have hsm:X.bs.length<=400000:=by obtain ⟨_,_,h⟩:=h;exact h.small
 obtain ⟨n0,hn0⟩:∃n0,n0=c.toNat-48:=⟨_,rfl⟩
 have hci:(c.toNat:Int)=(n0:Int)+48:=by omega
 have hn7:n0<=7:=by omega
 rw [<-hn0] at HV
 rw [hci]
 clear hV h hc hc2 hn0 hci
 go_enter Tryz.func227,Tryz.ntmps227
 go_wp2
 go_loopw [5,6] (fun n i wr=>∃(j N k':Nat),j<=2/\n=.int .i64 N/\i=.int .i64 j/\N+1<=8 ^ (j+1)/\k<=k'/\Hid (zam w S p X out k' wr)/\Hid (V=(zdR X.yo (2-j) N (X.bs.drop k')).map fun x=>(out++[UInt8.ofNat x.1],k'+x.2))) (fun _ i _=>2-(intOf i).toNat)
 case atStart=>exact ⟨0,n0,k,by omega,by go_num,rfl,by omega,ym _,HN,HV⟩
 case round =>
  obtain ⟨j,N,k',hj,rfl,rfl,hN,hkk,HS,HG⟩:=hrel
  obtain ⟨S1,hq1,hk1,hs1⟩:=HS.out
  have HQ1:=ya hq1
  have HK1:=ya hk1
  have HS1:=ya hs1
  have hP:=zcf hq1
  unfold zed u8C at hP
  have hN5:N<=511:=by
   have:j=0\/j=1\/j=2:=by omega
   rcases this with rfl|rfl|rfl<;>omega
  have HWB:=ya (fun (q:Nat) (x:Int) (hx:x=((UInt8.ofNat N).toNat:Int))=>zaG (hq1.drewN q) (UInt8.ofNat N) x hx (by omega))
  have HWB0:=ya (fun (x:Int) (hx:x=((UInt8.ofNat N).toNat:Int))=>zaG hq1 (UInt8.ofNat N) x hx (by omega))
  clear hq1 hk1 hs1
  by_cases hj2:j<2
  ·obtain ⟨m,hm⟩:∃m,2-j=m+1:=⟨1-j,by omega⟩
   have hg:=HG.out
   rw [hm] at hg
   have HM:=ya hm
   have hjd:decide ((j:Int)<2)=true:=by simp;omega
   clear hm
   by_cases hk2:k'<X.bs.length
   ·rw [yf hk2] at hP
    rw [zaS hk2,zdR] at hg
    by_cases hd:isOc (X.bs.getD k' 0)=true
    ·have hd2:=zc8.1 hd
     rw [yf hd] at hg
     have HP:=ya hP
     have HG2:=ya hg
     obtain ⟨d,hd3⟩:∃d,d=(X.bs.getD k' 0).toNat-48:=⟨_,rfl⟩
     have hdi:((X.bs.getD k' 0).toNat:Int)=(d:Int)+48:=by omega
     have hd7:d<=7:=by omega
     rw [hdi] at HP
     rw [<-hd3] at HG2
     clear hg hP hd hd2 hd3 hdi
     go_wp2_with fail
     refine HP.out.mono ?_
     rintro e w1 ⟨rfl,q,rfl⟩
     have h1:=HQ1.out.drewN q
     obtain ⟨ad,v,h1⟩:=h1
     obtain ⟨-,-,-,c3,-⟩:=h1.cells
     have f3:=h1.free 3
     have HM3:=ya (zam.trans HK1.out HS1.out (zam.drew q (h1.move (k'+1) (by omega) (by omega))))
     clear h1
     go_wp2
     go_roundw
     case rel =>
      refine ⟨j+1,8*N+d,k'+1,by omega,by go_num,by go_num,by rw [Nat.pow_succ];omega,by omega,HM3,ya ?_⟩
      rw [HG2.out,show 2-(j+1)=m from by have:=HM.out;omega,Option.map_map]
      congr 1
      funext x
      simp only [Function.comp]
      rw [show k'+1+x.2=k'+(x.2+1) from by omega]
     case measure=>simp [intOf];omega
    ·rw [yg hd] at hg
     simp only [Option.map_some] at hg
     have HG2:=ya hg
     have HP:=ya hP
     have hd2:¬(48<=(X.bs.getD k' 0).toNat/\(X.bs.getD k' 0).toNat<=55):=fun e=>hd (zc8.2 e)
     generalize (X.bs.getD k' 0).toNat=x at *
     by_cases hx:(x:Int)<48
     ·have hxd:decide ((x:Int)<48)=true:=by simpa using hx
      clear hg hP hd hd2
      go_wp2_with fail
      refine HP.out.mono ?_
      rintro e w1 ⟨rfl,q,rfl⟩
      go_wp2_with fail
      refine (HWB.out q _ (zde N)).mono ?_
      rintro e w2 ⟨rfl,hn2⟩
      have HN2:=ya hn2
      clear hn2
      go_wp2
      go_ret
      exact zf9 ((HK1.out).drewN q) HS1.out HN2.out _ HG2.out
     ·have hxd:decide ((x:Int)<48)=false:=by simpa using hx
      have hx2:decide ((55:Int)<x)=true:=by simp;omega
      clear hg hP hd hd2 hx
      go_wp2_with fail
      refine HP.out.mono ?_
      rintro e w1 ⟨rfl,q,rfl⟩
      go_wp2_with fail
      refine (HWB.out q _ (zde N)).mono ?_
      rintro e w2 ⟨rfl,hn2⟩
      have HN2:=ya hn2
      clear hn2
      go_wp2
      go_ret
      exact zf9 ((HK1.out).drewN q) HS1.out HN2.out _ HG2.out
   ·rw [yg hk2] at hP
    rw [zbP hk2,zdR] at hg
    have HP:=ya hP
    have hlast:=fun (q:Nat)=>(let ⟨ad,v,h⟩:=HQ1.out.drewN q;h.cells.2.2.2.2)
    obtain ⟨l,hl⟩:∃l,X.yo=l:=⟨_,rfl⟩
    rw [hl] at hg hlast
    have HL:=ya hlast
    have HG2:=ya hg
    clear hg hP hl hlast hk2
    cases l
    ·go_wp2_with fail
     refine HP.out.mono ?_
     rintro e w1 ⟨rfl,q,rfl⟩
     have c4:=HL.out q
     have HN2:=ya (zam.trans HK1.out HS1.out (zam.drew q (zam.refl (HQ1.out.drewN q))))
     go_wp2
     go_ret
     rw [HG2.out]
     exact ⟨rfl,_,_,HN2.out⟩
    ·go_wp2_with fail
     refine HP.out.mono ?_
     rintro e w1 ⟨rfl,q,rfl⟩
     have c4:=HL.out q
     go_wp2_with fail
     refine (HWB.out q _ (zde N)).mono ?_
     rintro e w2 ⟨rfl,hn2⟩
     have HN2:=ya hn2
     clear hn2
     go_wp2
     go_ret
     exact zf9 ((HK1.out).drewN q) HS1.out HN2.out _ HG2.out
  ·obtain rfl:j=2:=by omega
   have hg:=HG.out
   rw [Nat.sub_self,zdR,Option.map_some] at hg
   have HG2:=ya hg
   clear hg hP
   go_wp2_with fail
   refine (HWB0.out _ (zde N)).mono ?_
   rintro e w2 ⟨rfl,hn2⟩
   have HN2:=ya hn2
   clear hn2
   go_wp2
   go_ret
   exact zf9 HK1.out HS1.out HN2.out _ HG2.out
def zb1 (X:Src) (out:List UInt8) (k:Nat):Option (List UInt8×Nat):=(escV X.yo (X.bs.drop k)).map fun x=>(out++x.1,k+x.2)
theorem esc_idx (c:UInt8):(Lib.indexByte [110,114,116,98,102] c=-1/\c≠110/\c≠114/\c≠116/\c≠98/\c≠102)\/(c=110\/c=114\/c=116\/c=98\/c=102):=by
 by_cases h:Lib.indexByte [110,114,116,98,102] c=-1
 ·have:=zdh _ _ h
  simp at this
  exact .inl ⟨h,this⟩
 ·have hg:=Lib.indexByte_ge [110,114,116,98,102] c
  obtain ⟨i,hi⟩:=Int.eq_ofNat_of_zero_le (show 0<=Lib.indexByte [110,114,116,98,102] c by omega)
  obtain ⟨a,t,e,-,-⟩:=zdp _ _ _ hi
  have hm:c∈([110,114,116,98,102]:List UInt8):=by rw [e];simp
  simp at hm
  exact .inr hm
theorem escStep_of {X:Src} {out:List UInt8} {k:Nat} (hk:k<X.bs.length) (r:Option (List UInt8×Nat)) (h:escV X.yo (X.bs.getD k 0::X.bs.drop (k+1))=r):zb1 X out k=r.map fun x=>(out++x.1,k+x.2):=by
 unfold zb1;rw [zaS hk,h]
theorem zgo (yo:Bool) (c:UInt8) (t:List UInt8) (n1:c≠110) (n2:c≠114) (n3:c≠116) (n4:c≠98) (n5:c≠102):escV yo (c::t) =
  if isOc c=true then (octV yo c t).map (fun x=>([UInt8.ofNat x.1],x.2)) else if c=10 then some ([],1) else if c=13 then (zfd yo t).map (fun k=>([],k+1)) else some ([c],1):=by
 simp only [escV]
 rw [yg n1,yg n2,yg n3,yg n4,yg n5]
theorem step_none {w w2:World} {S:Nat->Prop} {p:Nat} {X:Src} {V:Option (List UInt8×Nat)} (hV:V=none) (h:∃out k,zam w S p X out k w2):zdE w S p X V (.returned (.bool false)) w2:=by
 subst hV;exact ⟨rfl,h⟩
theorem za9 {w w2:World} {S:Nat->Prop} {p:Nat} {X:Src} {V:Option (List UInt8×Nat)} {o2:List UInt8} {k2:Nat} (hV:V=some (o2,k2)) (h:zam w S p X o2 k2 w2):zdE w S p X V (.returned (.bool true)) w2:=by
 subst hV;exact ⟨rfl,h⟩
theorem line_other (a:Value) (x:Int) (hx:(x != 13)=true) (w:World):Calls Tryz.prog 203 #[a,.int .u8 x] w fun e w'=>e=.returned (.bool true)/\w=w':=by
 go_enter Tryz.func203,Tryz.ntmps203
 go_wp2
 go_ret
 exact ⟨rfl,rfl⟩
theorem escape_any {w:World} {S:Nat->Prop} {p:Nat} {X:Src} {out:List UInt8} {k:Nat} (h:ScQ w S p X out k) (hok:out.length<=k) :
  Calls Tryz.prog 202 #[.pointer (some ⟨p,0,none⟩)] w (zdE w S p X (zb1 X out k)):=by
 obtain ⟨V,hV⟩:∃V,V=zb1 X out k:=⟨_,rfl⟩
 rw [<-hV]
 have hP:=zcf h
 unfold zed u8C at hP
 have hsm:X.bs.length<=400000:=by obtain ⟨_,_,h⟩:=h;exact h.small
 by_cases hk:k<X.bs.length
 case neg =>
  rw [yg hk] at hP
  have HP:=ya hP
  have HL:=ya (show V=none by rw [hV];unfold zb1;rw [zbP hk];rfl)
  have HQ:=ya h
  clear hV hP h hk
  go_enter Tryz.func202,Tryz.ntmps202
  go_wp2_with fail
  refine HP.out.mono ?_
  rintro e w1 ⟨rfl,q,rfl⟩
  have HN2:=ya (zam.drew q (zam.refl (HQ.out.drewN q)))
  go_wp2
  go_ret
  rw [HL.out]
  exact ⟨rfl,_,_,HN2.out⟩
 rw [yf hk] at hP
 have HMV:=ya (fun q=>(let ⟨_,_,h1⟩:=h.drewN q;h1.move (k+1) (by omega) (by omega)))
 have HC3:=ya (fun q=>(let ⟨_,_,h1⟩:=h.drewN q;(And.intro h1.cells.2.2.2.1 (h1.free 3))))
 have hSI:=fun (c:UInt8) W=>sidx2_any ⟨#[110,114,116,98,102]⟩ (c.toNat:Int) W
 have hSI2:∀(c:UInt8) W,Calls Tryz.prog 222 #[.string ⟨#[110,114,116,98,102]⟩,.int .u8 c.toNat] W fun e w'=>e=.returned (.int .i64 (Lib.indexByte [110,114,116,98,102] c))/\W=w':=fun c W=>by
  have:=hSI c W;rw [u8_back] at this;exact this
 have hE:=fun r hr=>hV.trans (escStep_of (X:=X) (out:=out) (k:=k) hk r hr)
 obtain ⟨c,hc⟩:∃c,c=X.bs.getD k 0:=⟨_,rfl⟩
 rw [<-hc] at hP hE
 clear hSI hV hc
 rcases esc_idx c with ⟨hix,n1,n2,n3,n4,n5⟩|hlit
 ·have hIX:=hSI2 c
  rw [hix] at hIX
  have HIX:=ya hIX
  have HP:=ya hP
  clear hIX hSI2 hP
  by_cases hoc:isOc c=true
  ·have HV:=ya (hE _ (show escV X.yo (c::X.bs.drop (k+1))=(octV X.yo c (X.bs.drop (k+1))).map fun x=>([UInt8.ofNat x.1],x.2) by
    rw [zgo _ _ _ n1 n2 n3 n4 n5,yf hoc]))
   have hoc2:=zc8.1 hoc
   have h48:decide ((48:Int)<=c.toNat)=true:=by simp;omega
   have h55:decide ((c.toNat:Int)<=55)=true:=by simp;omega
   clear hE n1 n2 n3 n4 n5 hix hoc2
   go_enter Tryz.func202,Tryz.ntmps202
   go_wp2_with fail
   refine HP.out.mono ?_
   rintro e w1 ⟨rfl,q,rfl⟩
   obtain ⟨c3,f3⟩:=HC3.out q
   obtain ⟨S1,q1,k1,s1⟩:=HMV.out q
   have HQ1:=ya q1
   have HK1:=ya (zae.trans ((zae.refl S w).drewN q) k1 (fun _ h=>.inl h))
   have HS1:=ya s1
   clear q1 k1 s1
   go_wp2_with fail
   refine (HIX.out _).mono ?_
   rintro e w2 ⟨rfl,rfl⟩
   rw [show ((k:Int)+1)=((k+1:Nat):Int) from rfl]
   generalize (w.drewN q).setCell ⟨p,3,none⟩ (.int .i64 ((k+1:Nat):Int))=w2 at *
   clear c3 f3
   have HO:=ya (octal_any HQ1.out c hoc (by omega))
   go_wp2_with fail
   refine HO.out.mono ?_
   rintro e w3 hstep
   have HST:=ya hstep
   clear hstep
   have HG:=ya (show V=(zdR X.yo 2 (c.toNat-48) (X.bs.drop (k+1))).map fun x=>(out++[UInt8.ofNat x.1],k+1+x.2) by
    rw [HV.out,octV_go,Option.map_map,Option.map_map]
    congr 1
    funext x
    simp only [Function.comp]
    rw [show k+(x.2+1)=k+1+x.2 from by omega])
   rw [<-HG.out] at HST
   cases hVV:V with
   | none =>
    rw [hVV] at HST
    obtain ⟨rfl,o2,k2,hn⟩:=HST.out
    have HN:=ya hn
    clear HST hn
    go_wp2
    go_ret
    exact step_none hVV ⟨o2,k2,zam.trans HK1.out HS1.out HN.out⟩
   | some ok =>
    obtain ⟨o2,k2⟩:=ok
    rw [hVV] at HST
    obtain ⟨rfl,hn⟩:=HST.out
    have HN:=ya hn
    clear HST hn
    go_wp2
    go_ret
    exact za9 hVV (zam.trans HK1.out HS1.out HN.out)
  ·have hoc2:¬(48<=c.toNat/\c.toNat<=55):=fun e=>hoc (zc8.2 e)
   by_cases h10:c=10
   ·subst h10
    have HV:=ya (show V=some (out++[],k+1) from hE _ (show escV X.yo (10::X.bs.drop (k+1))=some ([],1) from rfl))
    clear hE n1 n2 n3 n4 n5 hix hoc hoc2
    go_enter Tryz.func202,Tryz.ntmps202
    go_wp2_with fail
    refine HP.out.mono ?_
    rintro e w1 ⟨rfl,q,rfl⟩
    obtain ⟨c3,f3⟩:=HC3.out q
    obtain ⟨S1,q1,k1,s1⟩:=HMV.out q
    have HQ1:=ya q1
    have HK1:=ya (zae.trans ((zae.refl S w).drewN q) k1 (fun _ h=>.inl h))
    have HS1:=ya s1
    clear q1 k1 s1
    go_wp2_with fail
    refine (HIX.out _).mono ?_
    rintro e w2 ⟨rfl,rfl⟩
    rw [show ((k:Int)+1)=((k+1:Nat):Int) from rfl]
    generalize (w.drewN q).setCell ⟨p,3,none⟩ (.int .i64 ((k+1:Nat):Int))=w2 at *
    clear c3 f3
    go_wp2_with (go_at_call 203;refine (line_other _ _ rfl _).mono ?_;rintro e w3 ⟨rfl,rfl⟩)
    go_ret
    exact za9 (by rw [HV.out,List.append_nil]) (zam.trans HK1.out HS1.out (zam.refl HQ1.out))
   ·by_cases h13:c=13
    ·subst h13
     have HV:=ya (hE _ (show escV X.yo (13::X.bs.drop (k+1))=(zfd X.yo (X.bs.drop (k+1))).map fun j=>([],j+1) from rfl))
     clear hE n1 n2 n3 n4 n5 hix hoc hoc2 h10
     go_enter Tryz.func202,Tryz.ntmps202
     go_wp2_with fail
     refine HP.out.mono ?_
     rintro e w1 ⟨rfl,q,rfl⟩
     obtain ⟨c3,f3⟩:=HC3.out q
     obtain ⟨S1,q1,k1,s1⟩:=HMV.out q
     have HQ1:=ya q1
     have HK1:=ya (zae.trans ((zae.refl S w).drewN q) k1 (fun _ h=>.inl h))
     have HS1:=ya s1
     clear q1 k1 s1
     go_wp2_with fail
     refine (HIX.out _).mono ?_
     rintro e w2 ⟨rfl,rfl⟩
     rw [show ((k:Int)+1)=((k+1:Nat):Int) from rfl]
     generalize (w.drewN q).setCell ⟨p,3,none⟩ (.int .i64 ((k+1:Nat):Int))=w2 at *
     clear c3 f3
     have HO:=ya (line_any HQ1.out)
     go_wp2_with fail
     refine HO.out.mono ?_
     rintro e w3 hstep
     have HST:=ya hstep
     clear hstep
     have HG:=ya (show V=(zfd X.yo (X.bs.drop (k+1))).map fun j=>(out,k+1+j) by
      rw [HV.out,Option.map_map]
      congr 1
      funext x
      simp only [Function.comp,List.append_nil]
      rw [show k+(x+1)=k+1+x from by omega])
     rw [<-HG.out] at HST
     cases hVV:V with
     | none =>
      rw [hVV] at HST
      obtain ⟨rfl,o2,k2,hn⟩:=HST.out
      have HN:=ya hn
      clear HST hn
      go_wp2
      go_ret
      exact step_none hVV ⟨o2,k2,zam.trans HK1.out HS1.out HN.out⟩
     | some ok =>
      obtain ⟨o2,k2⟩:=ok
      rw [hVV] at HST
      obtain ⟨rfl,hn⟩:=HST.out
      have HN:=ya hn
      clear HST hn
      go_wp2
      go_ret
      exact za9 hVV (zam.trans HK1.out HS1.out HN.out)
    ·have HV:=ya (show V=some (out++[c],k+1) from hE (some ([c],1)) (by rw [zgo _ _ _ n1 n2 n3 n4 n5,yg hoc,yg h10,yg h13]))
     have h10d:((c.toNat:Int)==10)=false:=by rw [ye];intro e;exact h10 (UInt8.toNat_inj.1 (Int.ofNat_inj.1 e))
     have h13d:((c.toNat:Int)==13)=false:=by rw [ye];intro e;exact h13 (UInt8.toNat_inj.1 (Int.ofNat_inj.1 e))
     have HWB:=ya (fun W S1 (h:ScQ W S1 p X out (k+1))=>zaG h c (c.toNat:Int) rfl (by omega))
     by_cases h48:(48:Int)<=c.toNat
     ·have h48d:decide ((48:Int)<=c.toNat)=true:=by simpa using h48
      have h55d:decide ((c.toNat:Int)<=55)=false:=by simp;omega
      clear hE n1 n2 n3 n4 n5 hix hoc hoc2 h10 h13 h48
      generalize (c.toNat:Int)=x at *
      go_enter Tryz.func202,Tryz.ntmps202
      go_wp2_with fail
      refine HP.out.mono ?_
      rintro e w1 ⟨rfl,q,rfl⟩
      obtain ⟨c3,f3⟩:=HC3.out q
      obtain ⟨S1,q1,k1,s1⟩:=HMV.out q
      have HQ1:=ya q1
      have HK1:=ya (zae.trans ((zae.refl S w).drewN q) k1 (fun _ h=>.inl h))
      have HS1:=ya s1
      clear q1 k1 s1
      go_wp2_with fail
      refine (HIX.out _).mono ?_
      rintro e w2 ⟨rfl,rfl⟩
      rw [show ((k:Int)+1)=((k+1:Nat):Int) from rfl]
      generalize (w.drewN q).setCell ⟨p,3,none⟩ (.int .i64 ((k+1:Nat):Int))=w2 at *
      clear c3 f3
      go_wp2_with fail
      refine (HWB.out _ _ HQ1.out).mono ?_
      rintro e w3 ⟨rfl,hn⟩
      have HN:=ya hn
      clear hn
      go_wp2
      go_ret
      exact za9 HV.out (zam.trans HK1.out HS1.out HN.out)
     ·have h48d:decide ((48:Int)<=c.toNat)=false:=by simpa using h48
      clear hE n1 n2 n3 n4 n5 hix hoc hoc2 h10 h13 h48
      generalize (c.toNat:Int)=x at *
      go_enter Tryz.func202,Tryz.ntmps202
      go_wp2_with fail
      refine HP.out.mono ?_
      rintro e w1 ⟨rfl,q,rfl⟩
      obtain ⟨c3,f3⟩:=HC3.out q
      obtain ⟨S1,q1,k1,s1⟩:=HMV.out q
      have HQ1:=ya q1
      have HK1:=ya (zae.trans ((zae.refl S w).drewN q) k1 (fun _ h=>.inl h))
      have HS1:=ya s1
      clear q1 k1 s1
      go_wp2_with fail
      refine (HIX.out _).mono ?_
      rintro e w2 ⟨rfl,rfl⟩
      rw [show ((k:Int)+1)=((k+1:Nat):Int) from rfl]
      generalize (w.drewN q).setCell ⟨p,3,none⟩ (.int .i64 ((k+1:Nat):Int))=w2 at *
      clear c3 f3
      go_wp2_with fail
      refine (HWB.out _ _ HQ1.out).mono ?_
      rintro e w3 ⟨rfl,hn⟩
      have HN:=ya hn
      clear hn
      go_wp2
      go_ret
      exact za9 HV.out (zam.trans HK1.out HS1.out HN.out)
 ·have hall:∀d:UInt8,(c=110/\d=10)\/(c=114/\d=13)\/(c=116/\d=9)\/(c=98/\d=8)\/(c=102/\d=12)->V=some (out++[d],k+1):=by
   rintro d (⟨rfl,rfl⟩|⟨rfl,rfl⟩|⟨rfl,rfl⟩|⟨rfl,rfl⟩|⟨rfl,rfl⟩)
   all_goals exact hE _ rfl
  have HALL:=ya hall
  have HWB:=ya (fun W S1 (h:ScQ W S1 p X out (k+1)) (d:UInt8)=>zaG h d (d.toNat:Int) rfl (by omega))
  clear hall hE
  rcases hlit with rfl|rfl|rfl|rfl|rfl
  ·have hIX:=hSI2 110
   rw [show Lib.indexByte [110,114,116,98,102] 110=0 from rfl] at hIX
   have HIX:=ya hIX
   have HP:=ya hP
   clear hIX hSI2 hP
   go_enter Tryz.func202,Tryz.ntmps202
   go_wp2_with fail
   refine HP.out.mono ?_
   rintro e w1 ⟨rfl,q,rfl⟩
   obtain ⟨c3,f3⟩:=HC3.out q
   obtain ⟨S1,q1,k1,s1⟩:=HMV.out q
   have HQ1:=ya q1
   have HK1:=ya (zae.trans ((zae.refl S w).drewN q) k1 (fun _ h=>.inl h))
   have HS1:=ya s1
   clear q1 k1 s1
   go_wp2_with fail
   refine (HIX.out _).mono ?_
   rintro e w2 ⟨rfl,rfl⟩
   rw [show ((k:Int)+1)=((k+1:Nat):Int) from rfl]
   generalize (w.drewN q).setCell ⟨p,3,none⟩ (.int .i64 ((k+1:Nat):Int))=w2 at *
   clear c3 f3
   go_wp2_with fail
   go_still_tail 5,(by kernel_rfl)
   go_wp2_with fail
   refine (HWB.out _ _ (HQ1.out.drewN 1) 10).mono ?_
   rintro e w3 ⟨rfl,hn⟩
   have HN:=ya hn
   clear hn
   go_wp2
   go_ret
   exact za9 (HALL.out 10 (by simp)) (zam.trans (HK1.out.drewN 1) HS1.out HN.out)
  ·have hIX:=hSI2 114
   rw [show Lib.indexByte [110,114,116,98,102] 114=1 from rfl] at hIX
   have HIX:=ya hIX
   have HP:=ya hP
   clear hIX hSI2 hP
   go_enter Tryz.func202,Tryz.ntmps202
   go_wp2_with fail
   refine HP.out.mono ?_
   rintro e w1 ⟨rfl,q,rfl⟩
   obtain ⟨c3,f3⟩:=HC3.out q
   obtain ⟨S1,q1,k1,s1⟩:=HMV.out q
   have HQ1:=ya q1
   have HK1:=ya (zae.trans ((zae.refl S w).drewN q) k1 (fun _ h=>.inl h))
   have HS1:=ya s1
   clear q1 k1 s1
   go_wp2_with fail
   refine (HIX.out _).mono ?_
   rintro e w2 ⟨rfl,rfl⟩
   rw [show ((k:Int)+1)=((k+1:Nat):Int) from rfl]
   generalize (w.drewN q).setCell ⟨p,3,none⟩ (.int .i64 ((k+1:Nat):Int))=w2 at *
   clear c3 f3
   go_wp2_with fail
   go_still_tail 5,(by kernel_rfl)
   go_wp2_with fail
   refine (HWB.out _ _ (HQ1.out.drewN 1) 13).mono ?_
   rintro e w3 ⟨rfl,hn⟩
   have HN:=ya hn
   clear hn
   go_wp2
   go_ret
   exact za9 (HALL.out 13 (by simp)) (zam.trans (HK1.out.drewN 1) HS1.out HN.out)
  ·have hIX:=hSI2 116
   rw [show Lib.indexByte [110,114,116,98,102] 116=2 from rfl] at hIX
   have HIX:=ya hIX
   have HP:=ya hP
   clear hIX hSI2 hP
   go_enter Tryz.func202,Tryz.ntmps202
   go_wp2_with fail
   refine HP.out.mono ?_
   rintro e w1 ⟨rfl,q,rfl⟩
   obtain ⟨c3,f3⟩:=HC3.out q
   obtain ⟨S1,q1,k1,s1⟩:=HMV.out q
   have HQ1:=ya q1
   have HK1:=ya (zae.trans ((zae.refl S w).drewN q) k1 (fun _ h=>.inl h))
   have HS1:=ya s1
   clear q1 k1 s1
   go_wp2_with fail
   refine (HIX.out _).mono ?_
   rintro e w2 ⟨rfl,rfl⟩
   rw [show ((k:Int)+1)=((k+1:Nat):Int) from rfl]
   generalize (w.drewN q).setCell ⟨p,3,none⟩ (.int .i64 ((k+1:Nat):Int))=w2 at *
   clear c3 f3
   go_wp2_with fail
   go_still_tail 5,(by kernel_rfl)
   go_wp2_with fail
   refine (HWB.out _ _ (HQ1.out.drewN 1) 9).mono ?_
   rintro e w3 ⟨rfl,hn⟩
   have HN:=ya hn
   clear hn
   go_wp2
   go_ret
   exact za9 (HALL.out 9 (by simp)) (zam.trans (HK1.out.drewN 1) HS1.out HN.out)
  ·have hIX:=hSI2 98
   rw [show Lib.indexByte [110,114,116,98,102] 98=3 from rfl] at hIX
   have HIX:=ya hIX
   have HP:=ya hP
   clear hIX hSI2 hP
   go_enter Tryz.func202,Tryz.ntmps202
   go_wp2_with fail
   refine HP.out.mono ?_
   rintro e w1 ⟨rfl,q,rfl⟩
   obtain ⟨c3,f3⟩:=HC3.out q
   obtain ⟨S1,q1,k1,s1⟩:=HMV.out q
   have HQ1:=ya q1
   have HK1:=ya (zae.trans ((zae.refl S w).drewN q) k1 (fun _ h=>.inl h))
   have HS1:=ya s1
   clear q1 k1 s1
   go_wp2_with fail
   refine (HIX.out _).mono ?_
   rintro e w2 ⟨rfl,rfl⟩
   rw [show ((k:Int)+1)=((k+1:Nat):Int) from rfl]
   generalize (w.drewN q).setCell ⟨p,3,none⟩ (.int .i64 ((k+1:Nat):Int))=w2 at *
   clear c3 f3
   go_wp2_with fail
   go_still_tail 5,(by kernel_rfl)
   go_wp2_with fail
   refine (HWB.out _ _ (HQ1.out.drewN 1) 8).mono ?_
   rintro e w3 ⟨rfl,hn⟩
   have HN:=ya hn
   clear hn
   go_wp2
   go_ret
   exact za9 (HALL.out 8 (by simp)) (zam.trans (HK1.out.drewN 1) HS1.out HN.out)
  ·have hIX:=hSI2 102
   rw [show Lib.indexByte [110,114,116,98,102] 102=4 from rfl] at hIX
   have HIX:=ya hIX
   have HP:=ya hP
   clear hIX hSI2 hP
   go_enter Tryz.func202,Tryz.ntmps202
   go_wp2_with fail
   refine HP.out.mono ?_
   rintro e w1 ⟨rfl,q,rfl⟩
   obtain ⟨c3,f3⟩:=HC3.out q
   obtain ⟨S1,q1,k1,s1⟩:=HMV.out q
   have HQ1:=ya q1
   have HK1:=ya (zae.trans ((zae.refl S w).drewN q) k1 (fun _ h=>.inl h))
   have HS1:=ya s1
   clear q1 k1 s1
   go_wp2_with fail
   refine (HIX.out _).mono ?_
   rintro e w2 ⟨rfl,rfl⟩
   rw [show ((k:Int)+1)=((k+1:Nat):Int) from rfl]
   generalize (w.drewN q).setCell ⟨p,3,none⟩ (.int .i64 ((k+1:Nat):Int))=w2 at *
   clear c3 f3
   go_wp2_with fail
   go_still_tail 5,(by kernel_rfl)
   go_wp2_with fail
   refine (HWB.out _ _ (HQ1.out.drewN 1) 12).mono ?_
   rintro e w3 ⟨rfl,hn⟩
   have HN:=ya hn
   clear hn
   go_wp2
   go_ret
   exact za9 (HALL.out 12 (by simp)) (zam.trans (HK1.out.drewN 1) HS1.out HN.out)
end Go.Proofs.YtfafdeemfeaedaaGreat
namespace Go.Proofs.YtfafdeemfeaedaaGreat
open Go
theorem jump_mono {P:Program} {Q:Exit->Act->World->Prop} {a:Act} {w:World} {c:Code} {l:Nat} {J J':Act->World->Prop} (h:c.wp P (Exit.jump l J Q) a w) (hJ:∀a w,J a w->J' a w):c.wp P (Exit.jump l J' Q) a w:=by
 refine wp_mono h ?_
 intro e a' w' hq
 cases e with
 | goto l'=>exact ⟨hq.1,hJ _ _ hq.2⟩
 | normal=>exact hq
 | exit id=>exact hq
 | ret=>exact hq
 | panic ch=>exact hq
 | outgrown=>exact hq
theorem zb0 {P:Program} {Q:Exit->Act->World->Prop} {a:Act} {w:World} {c body:Code} (l:Nat) (I:Nat->Act->World->Prop) (hf:findLabel c l=some (Code.skip.seq body))
  (first:(∀n a w,I n a w->body.wp P (Exit.jump l (fun a w=>∃n,I n a w) Q) a w)->c.wp P (Exit.jump l (fun a w=>∃n,I n a w) Q) a w)
  (pass:∀n a w,I n a w->body.wp P (Exit.jump l (fun a' w'=>∃n',n'<n/\I n' a' w') Q) a w):(Code.scope c).wp P Q a w:=by
 refine wp_scope_jumps l (fun a w=>∃n,I n a w) (fun a w=>leastOf (fun n=>I n a w)) hf (first fun n a w hI=>jump_mono (pass n a w hI) fun a w ⟨n',_,h⟩=>⟨n',h⟩) ?_
 intro a w hI
 refine wp_seq (wp_skip ?_)
 refine wp_mono (pass _ a w (leastOf_spec hI).1) ?_
 intro e a' w' hq
 cases e with
 | goto l' =>
  obtain ⟨h1,n',hlt,hI'⟩:=hq
  exact ⟨h1,⟨n',hI'⟩,Nat.lt_of_le_of_lt ((leastOf_spec ⟨n',hI'⟩).2 n' hI') hlt⟩
 | normal=>exact hq
 | exit id=>exact hq
 | ret=>exact hq
 | panic ch=>exact hq
 | outgrown=>exact hq
end Go.Proofs.YtfafdeemfeaedaaGreat
namespace Go.Proofs.YtfafdeemfeaedaaGreat
open Go.RowKit
def valC (k n:Int) (s:ByteArray):Array Value:=#[.int .i64 k,.int .i64 n,.string s,.slice none 0 0]
def zbv:ByteArray:=⟨#[]⟩
theorem zep (a b:ByteArray):(a++b).size=a.size+b.size:=ByteArray.size_append
theorem zfq (a b:ByteArray):bl (a++b)=bl a++bl b:=by unfold bl;rw [ByteArray.data_append,Array.toList_append]
theorem zbZ (s:ByteArray) (w:World) (hs:s.size<=4611686018427387904) (hd:(bl s).all isDg=true) :
  Calls Tryz.prog 225 #[.string s] w fun e w'=>e=.returned (.int .i64 (mil (bl s):Nat))/\Below w.heap.size w w':=by
 have hD:=fun W=>zca ((s++⟨#[48,48,48,48,48,48]⟩).extract 0 6) W
 have hb:bl ((s++⟨#[48,48,48,48,48,48]⟩).extract 0 6)=(bl s++List.replicate 6 48).take 6:=by rw [bl_to,zfq];rfl
 have hlt:=zfu (bl s) hd
 have hv:zaz ((bl s++List.replicate 6 48).take 6)=(((mil (bl s):Nat):Int),0):=by
  refine zdv ?_ ?_ ?_
  ·intro e;have:=congrArg List.length e;simp at this
  ·rw [List.all_eq_true]
   intro x hx
   have hx:=List.mem_of_mem_take hx
   rw [List.mem_append] at hx
   rcases hx with hx|hx
   ·exact List.all_eq_true.1 hd x hx
   ·rw [List.mem_replicate] at hx;rw [hx.2];rfl
  ·show mil (bl s)<=_;omega
 rw [hb,hv] at hD
 have HD:=ya hD
 have hsz:(s++⟨#[48,48,48,48,48,48]⟩).size=s.size+6:=by rw [zep];rfl
 clear hD hb hv hd
 go_enter Tryz.func225,Tryz.ntmps225
 go_wp2_with (go_at_call 184;refine (HD.out _).mono ?_;rintro e w' ⟨rfl,hb⟩)
 go_ret
 exact ⟨rfl,hb⟩
def zbn (s:ByteArray) (m:Nat):Bool:=decide (bl s=[])&&decide (m=0)
theorem zev (k n:Int) (s:ByteArray) (a:Option Addr) (m c:Nat) (w:World) (hm:(m:Int)<=9223372036854775807) :
  Calls Tryz.prog 226 #[.agg #[.int .i64 k,.int .i64 n,.string s,.slice a m c]] w fun e w'=>e=.returned (.int .i64 (zaI k n (zbn s m)))/\Below w.heap.size w w':=by
 obtain ⟨V,hV⟩:∃V,V=zaI k n (zbn s m):=⟨_,rfl⟩
 rw [<-hV]
 unfold zaI at hV
 by_cases hk:k=2\/k=3
 ·obtain ⟨L,hL⟩:∃L:Int,L=if k=2 then 2147483647 else 2147483647000000:=⟨_,rfl⟩
  have hk2:(k==2)=decide (k=2):=by by_cases h:k=2<;>simp [h]
  by_cases h1:n < -L
  ·have HV:=ya (show V=2 by rw [hV,yg];rintro ⟨-,h|h⟩<;>(rw [h.1] at hL;simp at hL;omega))
   have HB:=ya (zag w (.cells #[.int .i64 k,.int .i64 n,.string s,.slice a m c] 27))
   clear hV hk2
   rcases hk with rfl|rfl<;>(simp at hL;subst hL)
   all_goals
    go_enter Tryz.func226,Tryz.ntmps226
    go_wp2
    go_ret
    exact ⟨zav HV.out.symm,HB.out⟩
  ·have h1d:decide (n < -L)=false:=by simpa using h1
   by_cases h2:L<n
   ·have HV:=ya (show V=2 by rw [hV,yg];rintro ⟨-,h|h⟩<;>(rw [h.1] at hL;simp at hL;omega))
    have HB:=ya (zag w (.cells #[.int .i64 k,.int .i64 n,.string s,.slice a m c] 27))
    clear hV hk2 h1
    rcases hk with rfl|rfl<;>(simp at hL;subst hL)
    all_goals
     go_enter Tryz.func226,Tryz.ntmps226
     go_wp2
     go_ret
     exact ⟨zav HV.out.symm,HB.out⟩
   ·have h2d:decide (L<n)=false:=by simpa using h2
    by_cases h3:s.toList=[]
    ·by_cases h4:m=0
     ·have HV:=ya (show V=0 by
       rw [hV,yf]
       refine ⟨by unfold zbn;rw [<-toL,h3,h4];rfl,?_⟩
       rcases hk with h|h<;>rw [h] at hL<;>simp at hL
       ·exact .inl ⟨h,by omega,by omega⟩
       ·exact .inr ⟨h,by omega,by omega⟩)
      have HB:=ya (zag w (.cells #[.int .i64 k,.int .i64 n,.string s,.slice a m c] 27))
      have h3e:s.toList.isEmpty=true:=by rw [h3];rfl
      clear hV hk2 h1 h2
      subst h4
      rcases hk with rfl|rfl<;>(simp at hL;subst hL)
      all_goals
       go_enter Tryz.func226,Tryz.ntmps226
       go_wp2
       go_ret
       exact ⟨zav HV.out.symm,HB.out⟩
     ·have HV:=ya (show V=2 by rw [hV,yg];rintro ⟨h,-⟩;unfold zbn at h;simp at h;exact h4 h.2)
      have HB:=ya (zag w (.cells #[.int .i64 k,.int .i64 n,.string s,.slice a m c] 27))
      have h3e:s.toList.isEmpty=true:=by rw [h3];rfl
      have h4':(0:Int)<m:=by omega
      have h4'':0<m:=by omega
      clear hV hk2 h1 h2 h4
      rcases hk with rfl|rfl<;>(simp at hL;subst hL)
      all_goals
       go_enter Tryz.func226,Tryz.ntmps226
       go_wp2
       go_ret
       exact ⟨zav HV.out.symm,HB.out⟩
    ·have HV:=ya (show V=2 by rw [hV,yg];rintro ⟨h,-⟩;unfold zbn at h;rw [<-toL] at h;simp at h;exact h3 h.1)
     have HB:=ya (zag w (.cells #[.int .i64 k,.int .i64 n,.string s,.slice a m c] 27))
     have h3e:s.toList.isEmpty=false:=by simpa using h3
     clear hV hk2 h1 h2
     rcases hk with rfl|rfl<;>(simp at hL;subst hL)
     all_goals
      go_enter Tryz.func226,Tryz.ntmps226
      go_wp2
      go_ret
      exact ⟨zav HV.out.symm,HB.out⟩
 ·have HV:=ya (show V=2 by rw [hV,yg];rintro ⟨-,h|h⟩<;>exact hk (by omega))
  have HB:=ya (zag w (.cells #[.int .i64 k,.int .i64 n,.string s,.slice a m c] 27))
  have hk2:(k==2)=false:=by rw [ye];omega
  have hk3:(k==3)=false:=by rw [ye];omega
  clear hV hk
  go_enter Tryz.func226,Tryz.ntmps226
  go_wp2
  go_ret
  exact ⟨zav HV.out.symm,HB.out⟩
end Go.Proofs.YtfafdeemfeaedaaGreat
