/-
  Our texts Base to SecP, in one.
-/
import Derived.WalkKit
import Derived.WalkSpells
import Derived.WalkLawsBesides
import Derived.Lib.Hide
import Derived.Test.YtcmoehknppjkiaaGreatDoorRows
import Derived.ProofKit
import Derived.OpenShut
import Derived.Lib.SmallJoins
set_option maxRecDepth 8000
set_option maxHeartbeats 8000000
namespace Go.Proofs.YtcmoehknppjkiaaGreatDoor
theorem yb {p:Prop} (h:p):Go.RowKit.Hid p:=h
theorem yd {p:Prop} [inst:Decidable p] (h:p):decide p=true:=decide_eq_true h
theorem ye {p:Prop} [inst:Decidable p] (h:¬p):decide p=false:=decide_eq_false h
theorem yf {α:Type _} [BEq α] [LawfulBEq α] {a b:α}:(a==b)=false↔a≠b:=beq_eq_false_iff_ne
theorem yg {c:Prop} {h:Decidable c} (hc:c) {α:Sort _} {t e:α}:ite c t e=t:=if_pos hc
theorem yh {c:Prop} {h:Decidable c} (hc:¬c) {α:Sort _} {t e:α}:ite c t e=e:=if_neg hc
theorem yi {P:Program} {fn:Func} {R:Ending→World→Prop} {a:Act} {w:World} {v:Value} (hr:(results fn a.tmps).run P w=.ok v w) (hd:a.defers=[]) (hR:R (.returned v) w):bodyPost P fn R .ret a w:=bodyPost_ret hr hd hR
theorem yj:(!false)=true:=rfl
theorem ym {α:Type _} {i:Nat} {l:List α}:(l.drop i).length=l.length-i:=List.length_drop
theorem yo {w w1 w2:World} (h:Go.RowKit.Hid (Go.RowKit.Below w.heap.size w w1)) (h2:Go.RowKit.Below w1.heap.size w1 w2):Go.RowKit.Hid (Go.RowKit.Below w.heap.size w w2):=h.out.trans (h2.mono h.out.size)
theorem yp (n:Nat):n≤n:=Nat.le_refl n
end Go.Proofs.YtcmoehknppjkiaaGreatDoor
namespace Go.Proofs.YtcmoehknppjkiaaGreatDoor
open Go.RowKit
def Row (w:World) (sz:Nat) (a:Option Addr) (n cap:Nat) (xs:List Value):Prop :=
 xs.length=n*sz/\n<=cap/\cap<=maxLen/\(a=none->cap=0) /\
  (0<n->∃b off,a=some ⟨b,off,none⟩/\b<w.heap.size/\∀j u,xs[j]?=some u->w.cell? ⟨b,off+j,none⟩=some u)
theorem cell?_keep {w w':World} (hb:Below w.heap.size w w') {a:Addr} {v:Value} (h:w.cell? a=some v):w'.cell? a=some v :=
 (hb.cell (World.block_lt_of_cell? w a h)).trans h
theorem Row.mono {w w':World} {sz:Nat} {a:Option Addr} {n cap:Nat} {xs:List Value} (h:Row w sz a n cap xs) (hb:Below w.heap.size w w'):Row w' sz a n cap xs:=by
 obtain ⟨h1,h2,h3,h4,h5⟩:=h;refine ⟨h1,h2,h3,h4,fun hn=>?_⟩;obtain ⟨b,off,ha,Qc,hc⟩:=h5 hn;exact ⟨b,off,ha,Nat.lt_of_lt_of_le Qc hb.size,fun j u hj=>cell?_keep hb (hc j u hj)⟩
theorem Row.i64 {w:World} {sz:Nat} {a:Option Addr} {n cap:Nat} {xs:List Value} (h:Row w sz a n cap xs):(n:Int)<=9223372036854775807:=by
 have:=h.2.1;have:=h.2.2.1;unfold maxLen at this;omega
theorem Row.i64c {w:World} {sz:Nat} {a:Option Addr} {n cap:Nat} {xs:List Value} (h:Row w sz a n cap xs):(cap:Int)<=9223372036854775807:=by
 have:=h.2.2.1;unfold maxLen at this;omega
theorem Row.at {α:Type} {enc:α->Value} (d:α) {w:World} {a:Option Addr} {n cap:Nat} {l:List α} (h:Row w 1 a n cap (l.map enc)) (k:Nat) (hk:k<n) :
  ∃b off,a=some ⟨b,off,none⟩/\b<w.heap.size/\∀k,k<n->w.cell? ⟨b,off+k,none⟩=some (enc (l.getD k d)):=by
 obtain ⟨h1,h2,h3,h4,h5⟩:=h;obtain ⟨b,off,rfl,hb,hc⟩:=h5 (by omega);refine ⟨b,off,rfl,hb,fun k hk=>hc k _ ?_⟩;simp at h1 |-;have:k<l.length:=by omega
 simp [this]
theorem Row.len1 {α:Type} {enc:α->Value} {w:World} {a:Option Addr} {n cap:Nat} {l:List α} (h:Row w 1 a n cap (l.map enc)):l.length=n:=by
 have:=h.1;simpa using this
theorem Row.nil (w:World) (sz:Nat):Row w sz none 0 0 []:=⟨by simp,yp _,by simp [maxLen],fun _=>rfl,fun h=>by omega⟩
theorem Row.of_owns {w:World} {base e sz:Nat} {v:Value} {n:Nat} {xs:List Value} (h:w.ownsRow base e sz v n xs) :
  ∃a cap,v=.slice a n cap/\Row w sz a n cap xs/\∀x,a=some x->base<=x.block:=by
 obtain ⟨h1,h2⟩:=h;rcases h2 with ⟨rfl,rfl⟩|⟨g,cap,cur,rfl,hb,hg,hn,hm,hs,ht⟩
 ·have:xs=[]:=List.eq_nil_of_length_eq_zero (by simpa using h1)
  subst this;exact ⟨none,0,rfl,Row.nil w sz,fun x hx=>by cases hx⟩
 ·refine ⟨some ⟨g,0,none⟩,cap,rfl,⟨h1,hn,hm,fun h=>(by cases h),fun _=>⟨g,0,rfl,(Array.getElem?_eq_some_iff.1 hg).1,fun j u hj=>?_⟩⟩,fun x hx=>by cases hx;exact hb⟩
  rw [Nat.zero_add,cell_of_row w g j cur e (0,0) hg];rw [<-ht,List.getElem?_take] at hj
  split at hj
  ·simpa using hj
  ·cases hj
theorem Row.of_own {w:World} {base e sz:Nat} {a:Option Addr} {n m cap:Nat} {xs:List Value} (h:w.ownsRow base e sz (.slice a n cap) m xs):n=m/\Row w sz a n cap xs:=by
 obtain ⟨a',cap',hv,hr,_⟩:=Row.of_owns h;simp only [Value.slice.injEq] at hv;obtain ⟨rfl,rfl,rfl⟩:=hv;exact ⟨rfl,hr⟩
theorem zbh {w w':World} {base e sz:Nat} {v:Value} {n:Nat} {xs:List Value} (h:w.ownsRow base e sz v n xs) (hb:Below w.heap.size w w'):w'.ownsRow base e sz v n xs:=by
 obtain ⟨h1,h2⟩:=h;refine ⟨h1,?_⟩;rcases h2 with h2|⟨g,cap,cur,hv,hg,hh,r⟩
 ·exact .inl h2
 ·exact .inr ⟨g,cap,cur,hv,hg,by rw [hb.block g (Array.getElem?_eq_some_iff.1 hh).1];exact hh,r⟩
theorem zci {w:World} {base base' e sz:Nat} {v:Value} {n:Nat} {xs:List Value} (h:w.ownsRow base e sz v n xs) (hb:base'<=base):w.ownsRow base' e sz v n xs:=by
 obtain ⟨h1,h2⟩:=h;refine ⟨h1,?_⟩;rcases h2 with h2|⟨g,cap,cur,hv,hg,r⟩
 ·exact .inl h2
 ·exact .inr ⟨g,cap,cur,hv,by omega,r⟩
theorem zab {w w':World} (hb:Below w.heap.size w w') {b:Nat} {o:Obj} (h:w.heap[b]?=some o):w'.heap[b]?=some o:=by
 rw [hb.block b (Array.getElem?_eq_some_iff.1 h).1];exact h
structure zfo (P:Program) (t e:TypeId) (z:Value) (size bytes:Nat):Prop where
 und:P.underlying t=some (.slice e)
 info:(P.info? e).map (fun i=>(i.zero,i.size,i.bytes))=some (some z,size,bytes)
 cells:z.cells.size=size
 pos:0<size
theorem zaQ {k:IntKind} {a b:Int} (h:a=b):Ending.returned (.int k a)=.returned (.int k b):=by rw [h]
theorem zbF {a b:Bool} (h:a=b):Ending.returned (.bool a)=.returned (.bool b):=by rw [h]
theorem zac {w:World} {b:Nat} (o:Obj) (h:b=w.heap.size):(w.alloc o).heap[b]?=some o:=by subst h;exact heap_alloc_new w o
theorem zal {w:World} {b:Nat} (o:Obj) {o':Obj} (h:w.heap[b]?=some o'):(w.alloc o).heap[b]?=some o':=by
 rw [Below.heap_alloc w o b (Array.getElem?_eq_some_iff.1 h).1];exact h
theorem zaq (w:World) (o:Obj):(w.alloc o).heap.size=w.heap.size+1:=by
 show (w.heap.push o).size=_;simp
theorem zai (w:World) (o:Obj):Below w.heap.size w (w.alloc o):=(Below.refl _ _).alloc (yp _) o
theorem za6 (w:World) (o o2:Obj):Below w.heap.size w ((w.alloc o).alloc o2):=(zai w o).alloc (by rw [zaq];omega) o2
theorem zfL (w:World) (o o2 o3:Obj):Below w.heap.size w (((w.alloc o).alloc o2).alloc o3):=(za6 w o o2).alloc (by rw [zaq,zaq];omega) o3
theorem zaE {P:Program} {w:World} {ops:Array Oper} {rest:List Oper} {o:Oper} {a:Act} {Q:Exit->Act->World->Prop} {t e:TypeId} {z:Value} {size bytes:Nat} (T:zfo P t e z size bytes)
  (hgd:o.guard=none) (s x:Operand) (ho:o.op=.call { callee:=.builtin .append,args:=#[s,x],argTypes:=#[t,t] })
  (base:Nat) (v:Value) (n:Nat) (xs:List Value) (hs:a.eval s=v) (hown:w.ownsRow base e size v n xs)
  (ao:Option Addr) (m c:Nat) (news:List Value) (hx:a.eval x=.slice ao m c) (hr:Row w size ao m c news) (h1:∀u∈news,u.oneCell'=true)
  (h63:n+m<=maxLen) (hbytes:(n+m)*bytes<=140737488355328) (hbase:base<=w.heap.size)
  (h:∀v' w',w'.ownsRow base e size v' (n+m) (xs++news)->w.grownBy w' v.ownBlock->(v'=.slice none 0 0↔v=.slice none 0 0/\m=0)->wpList P ops Q rest (a.put o.dst v') w'):wpList P ops Q (o::rest) a w:=by
 obtain ⟨i,hi,hz,Qy,hb⟩:=info_parts T.info;subst hb;obtain ⟨r1,r2,r3,r4,r5⟩:=hr
 cases ao with
 | some ad =>
  refine wpList_append_own w hgd s x t ho base e i z size i.bytes T.und hi hz Qy rfl T.cells T.pos v n xs hs hown ad m c news hx r1 (fun j u hj=>?_) h1 h63 hbytes hbase h
  by_cases hm:0<m
  ·obtain ⟨b,off,Qz,_,hc⟩:=r5 hm
   obtain rfl:=Option.some.inj Qz;rw [Addr.add_lit];exact hc j u hj
  ·obtain rfl:m=0:=by omega
   have:news=[]:=List.eq_nil_of_length_eq_zero (by simpa using r1);subst this;simp at hj
 | none =>
  obtain rfl:=r4 rfl;obtain rfl:m=0:=by omega
  have:news=[]:=List.eq_nil_of_length_eq_zero (by simpa using r1);subst this;refine wpList_plain hgd fun K hK=>?_;have Qr:=run_append_owned_none (P:=P) w base t o.type e i size T.und hi v n xs hown;unfold Oper.wp;simp [execOp,ho,resolve,invoke,builtin,hs,hx,Qr,Result.andThen];exact hK _ _ (h v w (by simpa using hown) ⟨rfl,rfl,rfl,yp _,fun _ _ _=>rfl⟩ (by simp))
theorem zbz (w:World) (x:Value) (e:TypeId):Row (w.alloc (.cells #[x] e)) 1 (some ⟨w.heap.size,0,none⟩) 1 1 [x] :=
 ⟨rfl,yp _,by simp [maxLen],fun h=>(by cases h),fun _=>⟨w.heap.size,0,rfl,by rw [zaq];omega,fun j u hj=>by
  rw [cell_of_row _ _ _ _ _ _ (zac _ rfl)];rcases j with _|j
  ·simpa using hj
  ·simp at hj⟩⟩
theorem zbZ {x:Value} (h:x.oneCell'=true):∀u∈[x],u.oneCell'=true:=by
 intro u hu;simp at hu;subst hu;exact h
theorem below_cell {B:Nat} {w w':World} (h:Below B w w') {b o:Nat} {v:Value} (hb:b<B) (hc:w.cell? ⟨b,o,none⟩=some v):w'.cell? ⟨b,o,none⟩=some v:=(h.cell (p:=⟨b,o,none⟩) hb).trans hc
theorem Row.below {B:Nat} {w w':World} {sz:Nat} {a:Option Addr} {n cap:Nat} {xs:List Value} (h:Row w sz a n cap xs) (hb:Below B w w') (ha:∀x,a=some x->x.block<B):Row w' sz a n cap xs:=by
 obtain ⟨h1,h2,h3,h4,h5⟩:=h;refine ⟨h1,h2,h3,h4,fun hn=>?_⟩;obtain ⟨b,off,Qv,Qc,hc⟩:=h5 hn;exact ⟨b,off,Qv,Nat.lt_of_lt_of_le Qc hb.size,fun j u hj=>below_cell hb (ha _ Qv) (hc j u hj)⟩
theorem Row.lt {w:World} {sz:Nat} {a:Option Addr} {n cap:Nat} {xs:List Value} (h:Row w sz a n cap xs) (hn:0<n):∀x,a=some x->x.block<w.heap.size:=by
 obtain ⟨b,off,ha,Qc,_⟩:=h.2.2.2.2 hn;intro x hx;rw [ha] at hx;cases hx;exact Qc
theorem row_arg {k:IntKind} {w:World} {a:Option Addr} {len cap:Nat} {zs:List Int}
  (h:(a=none/\len=0/\cap=0/\zs=[])\/∃x,a=some x/\len<=cap/\cap<=maxLen/\zs.length=cap/\(∀i,i<zs.length->w.cell? (x.add i)=some (.int k (zs.getD i 0)))/\∀n∈zs,(Lit.int k n).wf=true) :
  Row w 1 a len cap ((zs.take len).map (Value.int k))/\(∀n∈zs.take len,(Lit.int k n).wf=true)/\(zs.take len).length=len:=by
 rcases h with ⟨rfl,rfl,rfl,rfl⟩|⟨x,rfl,hl,hm,hz,hc,hw⟩
 ·exact ⟨Row.nil w 1,by simp,by simp⟩
 ·refine ⟨⟨by simp;omega,hl,hm,fun h=>(by cases h),fun hn=>?_⟩,fun n hn=>hw n (List.mem_of_mem_take hn),by simp;omega⟩
  have h0:=hc 0 (by omega);have hb:=World.block_lt_of_cell? w _ h0;obtain ⟨b,off,spot⟩:=x;have Ql:spot=none:=by simpa [Addr.add] using World.cell?_spot h0
  subst Ql;refine ⟨b,off,rfl,by simpa [Addr.add] using hb,fun j u hj=>?_⟩
  have QA:j<len:=by
   have:=(List.getElem?_eq_some_iff.1 hj).1;simp at this;omega
  have h1:=hc j (by omega);rw [Addr.add_lit] at h1;rw [h1,<-hj];simp [QA,List.getD,show j<zs.length by omega]
theorem zag {B:Nat} {a w:World} (h:Below B a w) (n:Nat):Below B a (w.drewN n):=⟨h.os,h.tape,h.output,h.size,h.block⟩
theorem row_bytes {w:World} {a:Option Addr} {len cap:Nat} {zs:List Int}
  (h:(a=none/\len=0/\cap=0/\zs=[])\/∃x,a=some x/\len<=cap/\cap<=maxLen/\zs.length=cap/\(∀i,i<zs.length->w.cell? (x.add i)=some (.int .u8 (zs.getD i 0)))/\∀n∈zs,(Lit.int .u8 n).wf=true) :
  ∃bs:List UInt8,bs.length=len/\Row w 1 a bs.length cap (bs.map fun b=>Value.int .u8 b.toNat):=by
 obtain ⟨hr,hw,hl⟩:=row_arg h;refine ⟨(zs.take len).map fun n=>UInt8.ofNat n.toNat,by simpa using hl,?_⟩
 have e:((zs.take len).map fun n=>UInt8.ofNat n.toNat).map (fun b=>Value.int .u8 b.toNat)=(zs.take len).map (Value.int .u8):=by
  rw [List.map_map];refine List.map_congr_left fun n hn=>?_;have:=hw n hn;simp [Lit.wf,IntKind.min,IntKind.max,IntKind.signed,IntKind.bits] at this;simp;omega
 rw [e,List.length_map,hl];exact hr
end Go.Proofs.YtcmoehknppjkiaaGreatDoor
namespace Go.Proofs.YtcmoehknppjkiaaGreatDoor
def layF:Array Value:=(Go.Pinned.utf8FirstZ.map fun (n:Nat)=>Value.int .u8 n).toArray
def layA:Array Value:=([128,191,160,191,128,159,144,191,128,143,0,0,0,0,0,0,0,0,0,0,0,0,0,0,0,0,0,0,0,0,0,0].map fun (n:Nat)=>Value.int .u8 n).toArray
def layS1 (w:World) (g:Nat) (cs:Array Value):World:={ w with heap:=w.heap.modify g fun
   | .cells _ t frozen=>.cells cs t frozen
   | o=>o }
def layS2 (w:World):World:=layS1 (layS1 w 1 layF) 2 layA
theorem snoc_ind {α:Type} {p:List α->Prop} (h0:p []) (h1:∀l c,p l->p (l++[c])) (l:List α):p l:=by
 have h:∀r:List α,p r.reverse:=by
  intro r
  induction r with
  | nil=>exact h0
  | cons c r ih=>rw [List.reverse_cons];exact h1 _ _ ih
 have h2:=h l.reverse
 rwa [List.reverse_reverse] at h2
def isDg (c:UInt8):Bool:=decide (48<=c.toNat)&&decide (c.toNat<=57)
def dgV (c:UInt8):Nat:=c.toNat-48
def decV:List UInt8->Nat->Nat
 | [],n=>n
 | c::l,n=>decV l (10*n+dgV c)
def valD (l:List UInt8):Nat:=decV l 0
theorem zba {c:UInt8}:isDg c=true↔48<=c.toNat/\c.toNat<=57:=by unfold isDg;simp
theorem zbY {c:UInt8}:isDg c=false↔c.toNat<48\/57<c.toNat:=by
 rw [<-Bool.not_eq_true,zba];omega
theorem dgV_le {c:UInt8} (h:isDg c=true):dgV c<=9:=by rw [zba] at h;unfold dgV;omega
theorem zdw {c:UInt8} (h:isDg c=true):(dgV c:Int)=(c.toNat:Int)-48:=by rw [zba] at h;unfold dgV;omega
theorem zdh:∀(l m:List UInt8) (n:Nat),decV (l++m) n=decV m (decV l n)
 | [],_,_=>rfl
 | c::l,m,n=>zdh l m (10*n+dgV c)
theorem decV_ge:∀(l:List UInt8) (n:Nat),n<=decV l n
 | [],_=>yp _
 | c::l,n=>Nat.le_trans (by omega) (decV_ge l (10*n+dgV c))
theorem valD_nil:valD []=0:=rfl
theorem zb4 (l:List UInt8) (c:UInt8):valD (l++[c])=10*valD l+dgV c:=by unfold valD;rw [zdh];rfl
theorem zgD (l m:List UInt8):valD l<=valD (l++m):=by unfold valD;rw [zdh];exact decV_ge _ _
theorem zdO (l:List UInt8):∀j,valD (l++List.replicate j 48)=valD l*10 ^ j
 | 0=>by simp
 | j+1=>by
  rw [List.replicate_succ',<-List.append_assoc,zb4,zdO l j,Nat.pow_succ,show dgV 48=0 from rfl];rw [Nat.add_zero,Nat.mul_comm (10 ^ j) 10,<-Nat.mul_assoc,<-Nat.mul_assoc,Nat.mul_comm (valD l) 10]
theorem zde (l:List UInt8) (c:UInt8) (h:l.all isDg=true) (hc:isDg c=true):(l++[c]).all isDg=true:=by simp [hc];simpa using h
theorem valD_lt:∀(l:List UInt8),l.all isDg=true->valD l<10 ^ l.length:=by
 refine snoc_ind (fun _=>by decide) fun l c ih=>?_
 ·intro h
  rw [List.all_append,Bool.and_eq_true] at h;have h1:=ih h.1;have h2:=dgV_le (c:=c) (by simpa using h.2);rw [zb4,List.length_append,List.length_singleton,Nat.pow_succ];omega
def zaD (l:List UInt8):Int×Int:=if l=[]\/l.all isDg=false then (0,11) else if 2147483647<valD l then (0,5) else (((valD l:Nat):Int),0)
theorem zgi:zaD []=(0,11):=by simp [zaD]
theorem zdt {l:List UInt8} (h:l.all isDg=false):zaD l=(0,11):=by unfold zaD;rw [yg (.inr h)]
theorem zdr {l:List UInt8} (hn:l≠[]) (h:l.all isDg=true) (ho:2147483647<valD l):zaD l=(0,5):=by
 unfold zaD;rw [yh (by rw [h];simpa using hn),yg ho]
theorem zcr {l:List UInt8} (hn:l≠[]) (h:l.all isDg=true) (ho:valD l<=2147483647):zaD l=(((valD l:Nat):Int),0):=by
 unfold zaD;rw [yh (by rw [h];simpa using hn),yh (by omega)]
def mil (r:List UInt8):Nat:=valD ((r++List.replicate 6 48).take 6)
theorem zgu {r:List UInt8} (h:r.length<=6):mil r=valD r*10 ^ (6-r.length):=by
 unfold mil;rw [List.take_append,List.take_of_length_le h,List.take_replicate,Nat.min_eq_left (by omega),zdO]
theorem zho {r:List UInt8} (h:6<=r.length):mil r=valD (r.take 6):=by
 unfold mil;rw [List.take_append_of_le_length h]
theorem mil_snoc_lt (r:List UInt8) (c:UInt8) (h:r.length<6):mil (r++[c])=mil r+10 ^ (5-r.length)*dgV c:=by
 rw [zgu (by simp;omega),zgu (by omega),zb4,List.length_append,List.length_singleton];rw [show 6-r.length=(5-r.length)+1 from by omega,show 6-(r.length+1)=5-r.length from by omega,Nat.pow_succ,Nat.add_mul];rw [Nat.mul_comm (dgV c)]
 congr 1
 rw [Nat.mul_comm 10 (valD r),Nat.mul_assoc,Nat.mul_comm 10]
theorem mil_snoc_ge (r:List UInt8) (c:UInt8) (h:6<=r.length):mil (r++[c])=mil r:=by
 rw [zho h,zho (by simp;omega),List.take_append_of_le_length h]
theorem zgW (r:List UInt8) (h:r.all isDg=true):mil r<1000000:=by
 by_cases hl:r.length<=6
 ·have:=valD_lt ((r++List.replicate 6 48).take 6) (by
   rw [List.all_eq_true];intro x hx;have hx:=List.mem_of_mem_take hx;rw [List.mem_append] at hx;rcases hx with hx|hx
   ·exact List.all_eq_true.1 h x hx
   ·rw [List.mem_replicate] at hx;rw [hx.2];rfl)
  unfold mil;have Qh:((r++List.replicate 6 48).take 6:List UInt8).length=6:=by simp
  rw [Qh] at this;omega
 ·rw [zho (by omega)]
  have:=valD_lt (r.take 6) (by rw [List.all_eq_true];intro x hx;exact List.all_eq_true.1 h x (List.mem_of_mem_take hx));rw [List.length_take,Nat.min_eq_left (by omega)] at this;omega
def zcD (s:List UInt8):Int:=if s.head?=some 45 then -1 else 1
def zcI (s:List UInt8):List UInt8:=if s.head?=some 45\/s.head?=some 43 then s.tail else s
def zbD (b:List UInt8):List UInt8:=b.takeWhile (· != 46)
def zc2 (b:List UInt8):List UInt8:=(b.dropWhile (· != 46)).tail
def zeK (b:List UInt8):Bool:=b.any (·==46)
def zbl (sg:Int) (b:List UInt8):Int×Int×Int :=
 if (zbD b).length+(zc2 b).length=0\/(zbD b).all isDg=false\/(zc2 b).all isDg=false then (0,0,11)
 else if 2147483647<valD (zbD b) then (0,0,5)
 else if zeK b=false then (2,sg*(valD (zbD b):Nat),0)
 else if 2147483647000000<valD (zbD b)*1000000+mil (zc2 b) then (0,0,5)
 else (3,sg*((valD (zbD b)*1000000+mil (zc2 b):Nat):Int),0)
def zaP (s:List UInt8):Int×Int×Int:=zbl (zcD s) (zcI s)
theorem tw_app (w t:List UInt8) (hw:∀x∈w,x≠46):zbD (w++46::t)=w/\zc2 (w++46::t)=t/\zeK (w++46::t)=true:=by
 induction w with
 | nil=>simp [zbD,zc2,zeK]
 | cons x w ih =>
  have hx:x≠46:=hw x (List.mem_cons_self);obtain ⟨h1,h2,h3⟩:=ih fun y hy=>hw y (List.mem_cons_of_mem _ hy);refine ⟨?_,?_,by simp [zeK]⟩
  ·unfold zbD at *
   rw [List.cons_append,List.takeWhile_cons_of_pos (by simpa using hx),h1]
  ·unfold zc2 at *
   rw [List.cons_append,List.dropWhile_cons_of_pos (by simpa using hx),h2]
theorem tw_none (b:List UInt8) (hb:∀x∈b,x≠46):zbD b=b/\zc2 b=[]/\zeK b=false:=by
 induction b with
 | nil=>simp [zbD,zc2,zeK]
 | cons x w ih =>
  have hx:x≠46:=hb x (List.mem_cons_self);obtain ⟨h1,h2,h3⟩:=ih fun y hy=>hb y (List.mem_cons_of_mem _ hy);refine ⟨?_,?_,?_⟩
  ·unfold zbD at *
   rw [List.takeWhile_cons_of_pos (by simpa using hx),h1]
  ·unfold zc2 at *
   rw [List.dropWhile_cons_of_pos (by simpa using hx),h2]
  ·unfold zeK at *
   rw [List.any_cons,h3];simpa using hx
theorem dg_ne {x:UInt8} (h:isDg x=true):x≠46:=by rintro rfl;revert h;decide
theorem all_ne {w:List UInt8} (h:w.all isDg=true):∀x∈w,x≠46:=fun x hx=>dg_ne (List.all_eq_true.1 h x hx)
theorem tw_mem (w t:List UInt8) (c:UInt8) (hw:∀x∈w,x≠46) (hc:c≠46):c∈zbD (w++c::t):=by
 induction w with
 | nil=>unfold zbD;rw [List.nil_append,List.takeWhile_cons_of_pos (by simpa using hc)];exact List.mem_cons_self
 | cons x w ih =>
  have hx:x≠46:=hw x (List.mem_cons_self);unfold zbD at *;rw [List.cons_append,List.takeWhile_cons_of_pos (by simpa using hx)];exact List.mem_cons_of_mem _ (ih fun y hy=>hw y (List.mem_cons_of_mem _ hy))
theorem zc7 {l:List UInt8} {c:UInt8} (h:c∈l) (hc:isDg c=false):l.all isDg=false:=by
 rw [<-Bool.not_eq_true,List.all_eq_true];intro h2;rw [h2 c h] at hc;exact absurd hc (by decide)
theorem zcd (sg:Int) (w t:List UInt8) (c:UInt8) (hw:w.all isDg=true) (hc:c≠46) (hd:isDg c=false):zbl sg (w++c::t)=(0,0,11):=by
 unfold zbl;rw [yg (.inr (.inl (zc7 (tw_mem w t c (all_ne hw) hc) hd)))]
theorem parseB_bad2 (sg:Int) (w r t:List UInt8) (c:UInt8) (hw:w.all isDg=true) (hd:isDg c=false):zbl sg (w++46::(r++c::t))=(0,0,11):=by
 obtain ⟨h1,h2,h3⟩:=tw_app w (r++c::t) (all_ne hw);unfold zbl;rw [h2,yg (.inr (.inr (zc7 (c:=c) (by simp) hd)))]
theorem zgX (sg:Int) (b:List UInt8) (h:b.all isDg=true):zbl sg b=if b.length=0 then (0,0,11) else if 2147483647<valD b then (0,0,5) else (2,sg*(valD b:Nat),0):=by
 obtain ⟨h1,h2,h3⟩:=tw_none b (all_ne h);unfold zbl;rw [h1,h2,h3]
 by_cases hb:b.length=0
 ·rw [yg (.inl (by simp [hb])),yg hb]
 ·rw [yh (by rw [h];simp;intro e;exact hb (by simp [e])),yh hb];rfl
theorem zgs (sg:Int) (w r:List UInt8) (hw:w.all isDg=true) (hr:r.all isDg=true) :
  zbl sg (w++46::r)=if w.length+r.length=0 then (0,0,11) else if 2147483647<valD w\/(valD w=2147483647/\0<mil r) then (0,0,5) else (3,sg*((valD w*1000000+mil r:Nat):Int),0):=by
 obtain ⟨h1,h2,h3⟩:=tw_app w r (all_ne hw);have hm:=zgW r hr;unfold zbl;rw [h1,h2,h3]
 by_cases hb:w.length+r.length=0
 ·rw [yg (.inl hb),yg hb]
 ·rw [yh (by rw [hw,hr];simp;intro e1 e2;exact hb (by simp [e1,e2])),yh hb,yh (by decide:¬(true=false))]
  by_cases h4:2147483647<valD w
  ·rw [yg h4,yg (.inl h4)]
  ·rw [yh h4]
   by_cases h5:valD w=2147483647/\0<mil r
   ·rw [yg (by omega),yg (.inr h5)]
   ·rw [yh (by omega),yh (by omega)]
def decL (n:Nat):List UInt8:=if n<10 then [UInt8.ofNat (48+n)] else decL (n / 10)++[UInt8.ofNat (48+n % 10)]
termination_by n
theorem zbQ {n:Nat} (h:n<10):decL n=[UInt8.ofNat (48+n)]:=by rw [decL,yg h]
theorem zdF {n:Nat} (h:10<=n):decL n=decL (n / 10)++[UInt8.ofNat (48+n % 10)]:=by rw [decL,yh (by omega)]
theorem dig_isDg {d:Nat} (h:d<10):isDg (UInt8.ofNat (48+d))=true:=by
 rw [zba,UInt8.toNat_ofNat'];omega
theorem dig_dgV {d:Nat} (h:d<10):dgV (UInt8.ofNat (48+d))=d:=by
 unfold dgV;rw [UInt8.toNat_ofNat'];omega
theorem za4 (n:Nat):(decL n).all isDg=true/\valD (decL n)=n/\1<=(decL n).length:=by
 induction n using Nat.strongRecOn with
 | ind n ih =>
  by_cases h:n<10
  ·rw [zbQ h]
   refine ⟨by rw [List.all_cons,dig_isDg h];rfl,?_,by simp⟩
   show valD ([]++[_])=n;rw [zb4,valD_nil,dig_dgV h];omega
  ·obtain ⟨h1,h2,h3⟩:=ih (n / 10) (by omega)
   rw [zdF (by omega)];refine ⟨zde _ _ h1 (dig_isDg (by omega)),?_,by simp⟩;rw [zb4,h2,dig_dgV (by omega)];omega
theorem zbs:∀(k n:Nat),n<10 ^ (k+1)->(decL n).length<=k+1
 | 0,n,h=>by rw [zbQ (by simpa using h)];simp
 | k+1,n,h=>by
  by_cases h10:n<10
  ·rw [zbQ h10];simp
  ·rw [zdF (by omega),List.length_append,List.length_singleton]
   have:=zbs k (n / 10) (by rw [Nat.div_lt_iff_lt_mul (by omega)];rwa [Nat.pow_succ] at h);omega
theorem zfH:∀(k n:Nat),10 ^ k<=n->k+1<=(decL n).length
 | 0,n,_=>(za4 n).2.2
 | k+1,n,h=>by
  have hp:1<=10 ^ k:=Nat.pow_pos (by omega);rw [Nat.pow_succ] at h;rw [zdF (by omega),List.length_append,List.length_singleton];have:=zfH k (n / 10) (by rw [Nat.le_div_iff_mul_le (by omega)];exact h);omega
def fixD (n:Nat):Nat->List UInt8
 | 0=>[]
 | k+1=>UInt8.ofNat (48+n / 10 ^ k % 10)::fixD n k
theorem fixD_len (n:Nat):∀k,(fixD n k).length=k
 | 0=>rfl
 | k+1=>by simp [fixD,fixD_len n k]
theorem zfZ (n:Nat):∀k,fixD n (k+1)=fixD (n / 10) k++[UInt8.ofNat (48+n % 10)]
 | 0=>by simp [fixD]
 | k+1=>by
  rw [fixD,zfZ n k]
  show _=(UInt8.ofNat (48+n / 10 / 10 ^ k % 10)::fixD (n / 10) k)++_;rw [Nat.div_div_eq_div_mul,Nat.pow_succ,Nat.mul_comm 10,List.cons_append]
theorem fixD_zero:∀k,fixD 0 k=List.replicate k 48
 | 0=>rfl
 | k+1=>by rw [fixD,fixD_zero k,List.replicate_succ,Nat.zero_div];rfl
def padL (n d:Nat):List UInt8:=List.replicate (d-(decL n).length) 48++decL n
theorem fixD_pad:∀(k n:Nat),n<10 ^ (k+1)->fixD n (k+1)=padL n (k+1)
 | 0,n,h=>by
  have h10:n<10:=by simpa using h
  unfold padL;rw [zbQ h10,zfZ];simp [fixD,Nat.mod_eq_of_lt h10]
 | k+1,n,h=>by
  rw [zfZ]
  by_cases h10:n<10
  ·unfold padL
   rw [zbQ h10,show n / 10=0 from by omega,fixD_zero,Nat.mod_eq_of_lt h10];rfl
  ·rw [fixD_pad k (n / 10) (by rw [Nat.div_lt_iff_lt_mul (by omega)];rwa [Nat.pow_succ] at h)]
   unfold padL;rw [zdF (n:=n) (by omega),List.length_append,List.length_singleton,show k+1+1-((decL (n / 10)).length+1)=k+1-(decL (n / 10)).length from by omega,List.append_assoc]
theorem zdE {n d:Nat} (h:d<=(decL n).length):padL n d=decL n:=by
 unfold padL;rw [show d-(decL n).length=0 from by omega];rfl
theorem fixD_end (n least k:Nat) (hl:1<=least) (hk:least<=k) (h0:n / 10 ^ k=0) (h1:least<k->n / 10 ^ (k-1)≠0):fixD n k=padL n least:=by
 have hn:n<10 ^ k:=by
  rcases Nat.lt_or_ge n (10 ^ k) with h|h
  ·exact h
  ·have:=(Nat.le_div_iff_mul_le (Nat.pow_pos (by omega:0<10))).2 (by rwa [Nat.one_mul]:1*10 ^ k<=n)
   omega
 obtain ⟨j,rfl⟩:∃j,k=j+1:=⟨k-1,by omega⟩;rw [fixD_pad j n hn]
 by_cases he:least=j+1
 ·rw [he]
 ·have h2:10 ^ j<=n:=by
   have:=h1 (by omega);rw [show j+1-1=j from rfl] at this;rcases Nat.lt_or_ge n (10 ^ j) with h|h
   ·exact absurd (Nat.div_eq_of_lt h) this
   ·exact h
  have h3:=zfH j n h2;rw [zdE h3,zdE (by omega)]
def padV (n digits:Int):List UInt8×Int :=
 if n<0\/digits<1\/20<digits\/digits<((decL n.toNat).length:Int) then ([],2) else (padL n.toNat digits.toNat,0)
def zaM (k n:Int) (bare:Bool):Int :=
 if bare=true/\((k=2/\-2147483647<=n/\n<=2147483647)\/(k=3/\-2147483647000000<=n/\n<=2147483647000000)) then 0 else 2
def zcu (l:List UInt8):List UInt8:=(l.reverse.dropWhile (·==48)).reverse
def zbO (f:List UInt8):List UInt8:=f.take 1++zcu (f.drop 1)
def absL (k:Int) (n:Nat):List UInt8:=if k=2 then decL n else decL (n / 1000000)++46::zbO (padL (n % 1000000) 6)
def zbX (n:Int):List UInt8:=if n<0 then [45] else []
def zaT (k n:Int) (bare:Bool):List UInt8×Int:=if zaM k n bare=0 then (zbX n++absL k n.natAbs,0) else ([],2)
theorem zeY (l:List UInt8):zcu (l++[48])=zcu l:=by unfold zcu;simp
theorem zeV (l:List UInt8) (c:UInt8) (h:c≠48):zcu (l++[c])=l++[c]:=by
 unfold zcu;rw [List.reverse_append,List.reverse_singleton,List.singleton_append,List.dropWhile_cons_of_neg (by simpa using h)];simp
theorem trimR_zeros (l:List UInt8):∃j,l=zcu l++List.replicate j 48:=by
 refine snoc_ind (p:=fun l=>∃j,l=zcu l++List.replicate j 48) ⟨0,by simp [zcu]⟩ (fun l c ih=>?_) l
 ·by_cases h:c=48
  ·subst h
   obtain ⟨j,hj⟩:=ih;refine ⟨j+1,?_⟩;rw [zeY,List.replicate_succ',<-List.append_assoc,<-hj]
  ·exact ⟨0,by rw [zeV l c h];simp⟩
theorem zdK {n d:Nat} (h:(decL n).length<=d):(padL n d).length=d:=by unfold padL;simp;omega
theorem zfr (n d:Nat):(padL n d).all isDg=true:=by
 unfold padL;rw [List.all_append,(za4 n).1,Bool.and_true,List.all_eq_true];intro x hx;rw [List.mem_replicate] at hx;rw [hx.2];rfl
theorem valD_zl (j:Nat) (l:List UInt8):valD (List.replicate j 48++l)=valD l:=by
 have:=zdO [] j;simp only [List.nil_append,valD_nil,Nat.zero_mul] at this;unfold valD at *;rw [zdh,this]
theorem zhl (n d:Nat):valD (padL n d)=n:=by unfold padL;rw [valD_zl,(za4 n).2.1]
theorem zey (m:Nat) (h:m<1000000):mil (zbO (padL m 6))=m/\(zbO (padL m 6)).all isDg=true/\1<=(zbO (padL m 6)).length/\(zbO (padL m 6)).length<=6:=by
 have hl:(padL m 6).length=6:=zdK (by have:=zbs 5 m (by omega);omega);have ha:=zfr m 6;have hv:=zhl m 6;generalize padL m 6=f at *;obtain ⟨j,hj⟩:=trimR_zeros (f.drop 1)
 have hf:f=zbO f++List.replicate j 48:=by
  unfold zbO;rw [List.append_assoc,<-hj,List.take_append_drop]
 have Qh:(zbO f).length+j=6:=by have:=congrArg List.length hf;simpa [hl] using this.symm
 have QB:(zbO f).all isDg=true:=by
  rw [hf,List.all_append,Bool.and_eq_true] at ha;exact ha.1
 refine ⟨?_,QB,?_,by omega⟩
 ·rw [zgu (by omega),show 6-(zbO f).length=j from by omega,<-zdO,<-hf,hv]
 ·unfold zbO;rw [List.length_append,List.length_take];omega
theorem zcK {k n:Int} {b:Bool} (h:zaM k n b=0):b=true/\((k=2/\-2147483647<=n/\n<=2147483647)\/(k=3/\-2147483647000000<=n/\n<=2147483647000000)):=by
 unfold zaM at h
 split at h
 ·assumption
 ·omega
theorem head_dg {l t:List UInt8} (h:l.all isDg=true) (hl:1<=l.length):(l++t).head?≠some 45/\(l++t).head?≠some 43:=by
 cases l with
 | nil=>simp at hl
 | cons x l =>
  have hx:isDg x=true:=List.all_eq_true.1 h x List.mem_cons_self
  constructor<;>(intro e;simp at e;subst e;revert hx;decide)
theorem zgP (k:Int) (n:Nat):∃l t,absL k n=l++t/\l.all isDg=true/\1<=l.length:=by
 unfold absL
 split
 ·exact ⟨decL n,[],by simp,(za4 n).1,(za4 n).2.2⟩
 ·exact ⟨_,_,rfl,(za4 _).1,(za4 _).2.2⟩
theorem signB (k n:Int) (m:Nat):zcD (zbX n++absL k m)=(if n<0 then -1 else 1)/\zcI (zbX n++absL k m)=absL k m:=by
 obtain ⟨l,t,he,h1,h2⟩:=zgP k m;unfold zbX
 by_cases hn:n<0
 ·rw [yg hn,yg hn]
  exact ⟨by simp [zcD],by simp [zcI]⟩
 ·rw [yh hn,yh hn,List.nil_append,he]
  obtain ⟨a,b⟩:=head_dg (t:=t) h1 h2;exact ⟨by unfold zcD;rw [yh a],by unfold zcI;rw [yh (by rintro (h|h)<;>contradiction)]⟩
theorem parse_print (k n:Int) (b:Bool) (h:zaM k n b=0):zaP (zaT k n b).1=(k,n,0):=by
 unfold zaT;rw [yg h];obtain ⟨-,hc⟩:=zcK h;obtain ⟨s1,s2⟩:=signB k n n.natAbs
 show zaP (zbX n++absL k n.natAbs)=_;unfold zaP;rw [s1,s2];obtain ⟨m,hm⟩:∃m,m=n.natAbs:=⟨_,rfl⟩;rw [<-hm]
 have Qm:∀x:Nat,x=m->(if n<0 then (-1:Int) else 1)*(x:Int)=n:=by
  rintro x rfl
  split<;>omega
 rcases hc with ⟨rfl,h1,h2⟩|⟨rfl,h1,h2⟩
 ·unfold absL
  rw [yg rfl,zgX _ _ (za4 m).1,yh (by have:=(za4 m).2.2;omega),(za4 m).2.1,yh (by omega),Qm m rfl]
 ·unfold absL
  obtain ⟨t1,t2,t3,t4⟩:=zey (m % 1000000) (by omega);rw [yh (by decide:¬(3:Int)=2),zgs _ _ _ (za4 _).1 t2,yh (by omega),(za4 _).2.1,t1,yh (by omega),Qm _ (by omega)]
theorem parseV_check (s:List UInt8) (h:(zaP s).2.2=0):zaM (zaP s).1 (zaP s).2.1 true=0:=by
 unfold zaP zbl at *;have Qm:zcD s=1\/zcD s=-1:=by unfold zcD;split<;>simp
 generalize zcD s=sg at *;generalize zbD (zcI s)=w at *;generalize zc2 (zcI s)=r at *;generalize zeK (zcI s)=p at *
 split at h
 ·simp at h
 ·rename_i c1
  rw [yh c1]
  split at h
  ·simp at h
  ·rename_i c2
   rw [yh c2]
   split at h
   ·rename_i c3
    rw [yg c3];unfold zaM;rw [yg];refine ⟨rfl,.inl ⟨rfl,?_⟩⟩;simp only;rcases Qm with rfl|rfl<;>omega
   ·rename_i c3
    rw [yh c3]
    split at h
    ·simp at h
    ·rename_i c4
     rw [yh c4];unfold zaM;rw [yg];refine ⟨rfl,.inr ⟨rfl,?_⟩⟩;simp only;rcases Qm with rfl|rfl<;>omega
def isSp (c:UInt8):Bool:=c==0||c==9||c==10||c==12||c==13||c==32
def isDl (c:UInt8):Bool:=c==40||c==41||c==60||c==62||c==91||c==93||c==123||c==125||c==47||c==37
def isRg (c:UInt8):Bool:=!isSp c&&!isDl c
def isOc (c:UInt8):Bool:=decide (48<=c.toNat)&&decide (c.toNat<=55)
def hexD (c:UInt8):Int :=
 if 48<=c.toNat/\c.toNat<=57 then (c.toNat:Int)-48 else if 97<=c.toNat/\c.toNat<=102 then (c.toNat:Int)-87 else if 65<=c.toNat/\c.toNat<=70 then (c.toNat:Int)-55 else -1
theorem zhH (c:UInt8):-1<=hexD c/\hexD c<=15:=by
 unfold hexD
 repeat' split
 all_goals omega
def zbi:Bool->List UInt8->Nat
 | _,[]=>0
 | true,c::l=>1+zbi (c != 10&&c != 13) l
 | false,c::l=>if c=37 then 1+zbi true l else if isSp c=true then 1+zbi false l else 0
theorem zeb:∀(b:Bool) (l:List UInt8),zbi b l<=l.length
 | _,[]=>by simp [zbi]
 | true,c::l=>by have:=zeb (c != 10&&c != 13) l;simp only [zbi,List.length_cons];omega
 | false,c::l=>by
  have h1:=zeb true l;have h2:=zeb false l;simp only [zbi,List.length_cons]
  split
  ·omega
  ·split<;>omega
def zaL (bs:List UInt8) (k:Int):Nat:=if k<0 then 0 else if (bs.length:Int)<=k then bs.length else k.toNat+zbi false (bs.drop k.toNat)
def zee (yq:Bool):List UInt8->Option Nat
 | []=>if yq then some 0 else none
 | d::_=>some (if d=10 then 1 else 0)
def octV (yq:Bool) (c:UInt8):List UInt8->Option (Nat×Nat)
 | []=>if yq then some (c.toNat-48,1) else none
 | d::t=>if isOc d=true then
   (match t with
    | []=>if yq then some (8*(c.toNat-48)+(d.toNat-48),2) else none
    | e::_=>if isOc e=true then some (8*(8*(c.toNat-48)+(d.toNat-48))+(e.toNat-48),3) else some (8*(c.toNat-48)+(d.toNat-48),2))
  else some (c.toNat-48,1)
def escV (yq:Bool):List UInt8->Option (List UInt8×Nat)
 | []=>none
 | c::t =>
  if c=110 then some ([10],1) else if c=114 then some ([13],1) else if c=116 then some ([9],1) else if c=98 then some ([8],1) else if c=102 then some ([12],1)
  else if isOc c=true then (octV yq c t).map fun x=>([UInt8.ofNat x.1],x.2)
  else if c=10 then some ([],1)
  else if c=13 then (zee yq t).map fun k=>([],k+1)
  else some ([c],1)
def zbe (yq:Bool) (deep:Nat) (out:List UInt8) (l:List UInt8):Option (List UInt8×List UInt8) :=
 match l with
 | []=>none
 | c::t =>
  if c=92 then (match escV yq t with|none=>none|some (x,k)=>zbe yq deep (out++x) (t.drop k))
  else if c=13 then (match zee yq t with|none=>none|some k=>zbe yq deep (out++[10]) (t.drop k))
  else if c=40 then zbe yq (deep+1) (out++[c]) t
  else if c=41 then (if deep=1 then some (out,t) else zbe yq (deep-1) (out++[c]) t)
  else zbe yq deep (out++[c]) t
termination_by l.length
decreasing_by all_goals (simp only [List.length_cons,ym];omega)
def hexV (out:List UInt8) (half:Int):List UInt8->Int×List UInt8×List UInt8
 | []=>(1,[],[])
 | c::t =>
  if c=62 then (0,if 0<=half then out++[UInt8.ofNat (16*half).toNat] else out,t)
  else if isSp c=true then hexV out half t
  else if hexD c<0 then (11,[],[])
  else if half<0 then hexV out (hexD c) t
  else hexV (out++[UInt8.ofNat (16*half+hexD c).toNat]) (-1) t
def zbW (out:List UInt8):List UInt8->Option (List UInt8)
 | []=>some out
 | c::t=>if c=35 then
   (match t with
    | x::y::u=>if hexD x<0\/hexD y<0 then none else zbW (out++[UInt8.ofNat (16*hexD x+hexD y).toNat]) u
    | _=>none)
  else zbW (out++[c]) t
def zdR (w:List UInt8):Option (List UInt8):=match zbW [] w with|none=>none|some o=>if 127<o.length\/(0:UInt8)∈o then none else some o
structure Tk where
 kind:Int
 vk:Int:=0
 vn:Int:=0
 vs:List UInt8:=[]
 s:List UInt8:=[]
deriving DecidableEq
def zbf (yq:Bool):Int:=if yq then 10 else 6
def tokV (yq:Bool) (c:UInt8) (t:List UInt8):Int×Tk×List UInt8 :=
 if isRg c=true then
  (let w:=(c::t).takeWhile isRg;let r:=(c::t).dropWhile isRg
   if r=[]/\yq=false then (6,{ kind:=0 },[])
   else if isDg c=true\/c=43\/c=45\/c=46 then ((zaP w).2.2,{ kind:=1,vk:=(zaP w).1,vn:=(zaP w).2.1 },r)
   else (0,{ kind:=6,s:=w },r))
 else if c=91 then (0,{ kind:=2 },t)
 else if c=93 then (0,{ kind:=3 },t)
 else if c=60 then
  (match t with
   | []=>(zbf yq,{ kind:=0 },[])
   | d::u=>if d=60 then (0,{ kind:=4 },u) else
    (match hexV [] (-1) (d::u) with
     |(e,x,r)=>if e=0 then (0,{ kind:=1,vk:=4,vs:=x },r) else if e=1 then (zbf yq,{ kind:=0 },[]) else (11,{ kind:=0 },[])))
 else if c=62 then
  (match t with
   | []=>(if yq then 11 else 6,{ kind:=0 },[])
   | d::u=>if d=62 then (0,{ kind:=5 },u) else (11,{ kind:=0 },[]))
 else if c=40 then
  (match zbe yq 1 [] t with
   | none=>(zbf yq,{ kind:=0 },[])
   | some (x,r)=>(0,{ kind:=1,vk:=4,vs:=x },r))
 else if c=47 then
  (let w:=t.takeWhile isRg;let r:=t.dropWhile isRg
   if r=[]/\yq=false then (6,{ kind:=0 },[])
   else match zdR w with
   | none=>(17,{ kind:=0 },[])
   | some o=>(0,{ kind:=1,vk:=5,vs:=o },r))
 else (11,{ kind:=0 },[])
def zan (bs:List UInt8) (k:Int) (yq:Bool):Tk×Int×Int×Int :=
 if k<0\/(bs.length:Int)<k then ({ kind:=0 },0,0,2)
 else
  (let f:=zaL bs k
   match bs.drop f with
   | []=>({ kind:=0 },(f:Int),(f:Int),if yq then 0 else 6)
   | c::t =>
    (match tokV yq c t with
     |(e,x,r)=>if e=0 then (x,(f:Int),(bs.length:Int)-(r.length:Int),0) else ({ kind:=0 },(f:Int),(f:Int),e)))
theorem zdL:∀(b:Bool) (l:List UInt8),zbi false (l.drop (zbi b l))=0
 | _,[]=>by simp [zbi]
 | true,c::l=>by
  simp only [zbi];rw [Nat.add_comm,List.drop_succ_cons];exact zdL _ l
 | false,c::l=>by
  by_cases h:c=37
  ·rw [zbi,yg h,Nat.add_comm,List.drop_succ_cons];exact zdL _ l
  ·by_cases h2:isSp c=true
   ·rw [zbi,yh h,yg h2,Nat.add_comm,List.drop_succ_cons];exact zdL _ l
   ·rw [zbi,yh h,yh h2,List.drop_zero,zbi,yh h,yh h2]
theorem zfs {bs:List UInt8} {k:Int} (h:0<=k) (h2:k<=bs.length):k<=(zaL bs k:Nat)/\zaL bs k<=bs.length:=by
 unfold zaL;rw [yh (by omega)]
 split
 ·omega
 ·have:=zeb false (bs.drop k.toNat)
  rw [ym] at this;omega
theorem zgN {bs:List UInt8} {k:Int} (h:0<=k) (h2:k<=bs.length):zaL bs (zaL bs k:Nat)=zaL bs k:=by
 have hb:=zfs h h2
 by_cases h3:(bs.length:Int)<=(zaL bs k:Nat)
 ·have e:zaL bs k=bs.length:=by omega
  rw [e];unfold zaL;rw [yh (by omega),yg (by omega)]
 ·have e:zaL bs k=k.toNat+zbi false (bs.drop k.toNat):=by
   unfold zaL;rw [yh (by omega),yh (by omega)]
  have e3:zbi false (bs.drop (zaL bs k))=0:=by
   rw [e,<-List.drop_drop];exact zdL false _
  have gen:∀f:Nat,¬(bs.length:Int)<=(f:Int)->zbi false (bs.drop f)=0->zaL bs (f:Int)=f:=fun f h1 h2=>by
   unfold zaL;rw [yh (by omega),yh h1,Int.toNat_natCast,h2];rfl
  exact gen _ h3 e3
theorem zeq (u:List UInt8):∀(l:List UInt8) (out:List UInt8) (half:Int),((hexV out half l).1=0->hexV out half (l++u)=(0,(hexV out half l).2.1,(hexV out half l).2.2++u)/\(hexV out half l).2.2.length<l.length) /\
  ((hexV out half l).1≠0->(hexV out half l).1≠1->(hexV out half l).1=11/\hexV out half (l++u)=(11,[],[]))
 | [],out,half=>by simp [hexV]
 | c::t,out,half=>by
  rw [List.cons_append];simp only [hexV,List.length_cons]
  by_cases h1:c=62
  ·simp only [yg h1]
   exact ⟨fun _=>⟨by simp,by omega⟩,fun h=>absurd rfl h⟩
  simp only [yh h1]
  by_cases h2:isSp c=true
  ·simp only [yg h2]
   obtain ⟨g1,g2⟩:=zeq u t out half;exact ⟨fun h=>⟨(g1 h).1,by have:=(g1 h).2;omega⟩,g2⟩
  simp only [yh h2]
  by_cases h3:hexD c<0
  ·simp only [yg h3]
   exact ⟨fun h=>by simp at h,fun _ _=>⟨by simp,by simp⟩⟩
  simp only [yh h3]
  by_cases h4:half<0
  ·simp only [yg h4]
   obtain ⟨g1,g2⟩:=zeq u t out (hexD c);exact ⟨fun h=>⟨(g1 h).1,by have:=(g1 h).2;omega⟩,g2⟩
  simp only [yh h4];obtain ⟨g1,g2⟩:=zeq u t (out++[UInt8.ofNat (16*half+hexD c).toNat]) (-1);exact ⟨fun h=>⟨(g1 h).1,by have:=(g1 h).2;omega⟩,g2⟩
theorem drop_len (p:UInt8->Bool) (l:List UInt8):(l.dropWhile p).length<=l.length:=List.Sublist.length_le (List.dropWhile_sublist _)
theorem textV_len (yq:Bool):∀(n:Nat) (l:List UInt8),l.length<=n->∀(deep:Nat) (out x r:List UInt8),zbe yq deep out l=some (x,r)->r.length<l.length:=by
 intro n
 induction n with
 | zero =>
  intro l hl deep out x r h;obtain rfl:l=[]:=List.eq_nil_of_length_eq_zero (by omega);rw [zbe] at h;cases h
 | succ n ih =>
  intro l hl deep out x r h
  cases l with
  | nil=>rw [zbe] at h;cases h
  | cons c t =>
   simp only [List.length_cons] at hl |-;rw [zbe.eq_def] at h;simp only at h
   split at h
   ·split at h
    ·cases h
    ·have:=ih _ (by rw [ym];omega) _ _ _ _ h
     rw [ym] at this;omega
   ·split at h
    ·split at h
     ·cases h
     ·have:=ih _ (by rw [ym];omega) _ _ _ _ h
      rw [ym] at this;omega
    ·split at h
     ·have:=ih _ (by omega) _ _ _ _ h
      omega
     ·split at h
      ·split at h
       ·cases h;omega
       ·have:=ih _ (by omega) _ _ _ _ h
        omega
      ·have:=ih _ (by omega) _ _ _ _ h
       omega
theorem tokV_some (yq:Bool) (c:UInt8) (t:List UInt8) (h:(tokV yq c t).1=0):(tokV yq c t).2.1.kind≠0/\(tokV yq c t).2.2.length<=t.length:=by
 obtain ⟨V,hV⟩:∃V,tokV yq c t=V:=⟨_,rfl⟩;rw [hV] at h |-;unfold tokV at hV
 split at hV
 ·next hr =>
  have hd:((c::t).dropWhile isRg).length<=t.length:=by rw [List.dropWhile_cons_of_pos hr];exact drop_len _ _
  simp only at hV
  split at hV
  ·subst hV;simp at h
  ·split at hV
   ·subst hV;exact ⟨by simp,hd⟩
   ·subst hV;exact ⟨by simp,hd⟩
 split at hV
 ·subst hV;exact ⟨by simp,yp _⟩
 split at hV
 ·subst hV;exact ⟨by simp,yp _⟩
 split at hV
 ·cases t with
  | nil=>subst hV;cases yq<;>simp [zbf] at h
  | cons d t =>
   simp only at hV
   split at hV
   ·subst hV;exact ⟨by simp,by simp⟩
   ·have hx:=(zeq [] (d::t) [] (-1)).1
    split at hV
    ·subst hV
     exact ⟨by simp,Nat.le_of_lt (hx ‹_›).2⟩
    ·split at hV
     ·subst hV;cases yq<;>simp [zbf] at h
     ·subst hV;simp at h
 split at hV
 ·cases t with
  | nil=>subst hV;cases yq<;>simp at h
  | cons d t =>
   simp only at hV
   split at hV
   ·subst hV;exact ⟨by simp,by simp⟩
   ·subst hV;simp at h
 split at hV
 ·cases he:zbe yq 1 [] t with
  | none=>rw [he] at hV;subst hV;cases yq<;>simp [zbf] at h
  | some y =>
   obtain ⟨x,r⟩:=y;rw [he] at hV;subst hV;exact ⟨by simp,by have:=textV_len yq _ t (yp _) _ _ _ _ he;simp only;omega⟩
 split at hV
 ·simp only at hV
  split at hV
  ·subst hV;simp at h
  ·split at hV
   ·subst hV;simp at h
   ·subst hV;exact ⟨by simp,drop_len _ _⟩
 ·subst hV;simp at h
def zbw (bs:List UInt8) (f:Nat) (yq:Bool):Tk×Int×Int×Int :=
 match bs.drop f with
 | []=>({ kind:=0 },(f:Int),(f:Int),if yq then 0 else 6)
 | c::t=>if (tokV yq c t).1=0 then ((tokV yq c t).2.1,(f:Int),(bs.length:Int)-((tokV yq c t).2.2.length:Int),0) else ({ kind:=0 },(f:Int),(f:Int),(tokV yq c t).1)
theorem zcF {bs:List UInt8} {k:Int} (yq:Bool) (h:0<=k) (h2:k<=bs.length):zan bs k yq=zbw bs (zaL bs k) yq:=by
 have h3:¬(k<0\/(bs.length:Int)<k):=by omega
 unfold zan;rw [yh h3]
 show (match bs.drop (zaL bs k) with | []=>_|c::t=>_)=_;unfold zbw
 cases bs.drop (zaL bs k)<;>rfl
theorem zdx {bs:List UInt8} {f:Nat} (yq:Bool) (h:bs.drop f=[]):zbw bs f yq=({ kind:=0 },(f:Int),(f:Int),if yq then 0 else 6):=by unfold zbw;rw [h]
theorem zcs {bs:List UInt8} {f:Nat} (yq:Bool) {c:UInt8} {t:List UInt8} (h:bs.drop f=c::t):zbw bs f yq=if (tokV yq c t).1=0 then ((tokV yq c t).2.1,(f:Int),(bs.length:Int)-((tokV yq c t).2.2.length:Int),0) else ({ kind:=0 },(f:Int),(f:Int),(tokV yq c t).1):=by unfold zbw;rw [h]
theorem nextV_places {bs:List UInt8} {k:Int} (yq:Bool) (h:0<=k) (h2:k<=bs.length) :
  ((zan bs k yq).2.2.2≠0->(zan bs k yq).1={ kind:=0 }/\(zan bs k yq).2.1=(zan bs k yq).2.2.1/\k<=(zan bs k yq).2.1/\(zan bs k yq).2.1<=bs.length) /\
  ((zan bs k yq).2.2.2=0->(zan bs k yq).1.kind=0->yq=true/\(zan bs k yq).2.1=bs.length/\(zan bs k yq).2.2.1=bs.length) /\
  ((zan bs k yq).2.2.2=0->(zan bs k yq).1.kind≠0->zan bs (zan bs k yq).2.1 yq=zan bs k yq/\k<=(zan bs k yq).2.1/\(zan bs k yq).2.1<(zan bs k yq).2.2.1/\(zan bs k yq).2.2.1<=bs.length):=by
 obtain ⟨Qs,QF⟩:=zfs h h2;have hi:=zgN h h2;have hV:=zcF (bs:=bs) yq h h2;have Qn:=zcF (bs:=bs) (k:=(zaL bs k:Nat)) yq (by omega) (by omega);rw [hi] at Qn;generalize zaL bs k=f at *;rw [hV]
 cases hd:bs.drop f with
 | nil =>
  have hn:=zdx yq hd;rw [hn] at Qn |-;have QG:f=bs.length:=by have:=List.drop_eq_nil_iff.1 hd;omega
  refine ⟨fun _=>⟨rfl,rfl,Qs,by simp only;omega⟩,fun h0 _=>⟨?_,by simp only;omega,by simp only;omega⟩,fun _ h=>absurd rfl h⟩
  cases yq
  ·simp at h0
  ·rfl
 | cons c t =>
  have hn:=zcs yq hd
  have Qh:f+(t.length+1)=bs.length:=by
   have:=congrArg List.length hd;rw [ym,List.length_cons] at this;omega
  by_cases h0:(tokV yq c t).1=0
  ·obtain ⟨g1,g2⟩:=tokV_some yq c t h0
   rw [yg h0] at hn;rw [hn] at Qn |-;generalize tokV yq c t=T at *;obtain ⟨e,x,r⟩:=T;simp only at g1 g2 Qn |-;exact ⟨fun h=>absurd rfl h,fun _ h=>absurd h g1,fun _ _=>⟨Qn,Qs,by omega,by omega⟩⟩
  ·rw [yh h0] at hn
   rw [hn];exact ⟨fun _=>⟨rfl,rfl,Qs,by simp only;omega⟩,fun h=>absurd h h0,fun h=>absurd h h0⟩
inductive PV where
 | mk (kind n:Int) (s:List UInt8) (l:List PV)
def PV.kind:PV->Int | .mk k _ _ _=>k
def PV.n:PV->Int | .mk _ n _ _=>n
def PV.s:PV->List UInt8 | .mk _ _ s _=>s
def PV.l:PV->List PV | .mk _ _ _ l=>l
def PV.none:PV:=.mk 0 0 [] []
instance:Inhabited PV:=⟨PV.none⟩
structure Lv where
 dict:Bool
 l:List PV
def zgQ (v:Lv):Bool:=v.dict&&v.l.length % 2==0
def topW:List Lv->Bool
 | []=>false
 | v::_=>zgQ v
def zaN (t:Tk):Bool:=t.kind==1&&t.vk==2
def moreV (e:Int):Int:=if e=6 then 6 else 0
def tkV (t:Tk):PV:=.mk t.vk t.vn t.vs []
def refV (bs:List UInt8) (yq:Bool) (at_:Int) (v:PV):PV×Int×Int :=
 let g:=zan bs at_ yq
 if g.2.2.2≠0\/zaN g.1=false then (v,at_,moreV g.2.2.2) else
 let r:=zan bs g.2.2.1 yq
 if r.2.2.2≠0\/r.1.kind≠6\/r.1.s≠[82] then (v,at_,moreV r.2.2.2) else
 if v.n<1\/4096<v.n\/g.1.vn≠0 then (v,at_,26) else (.mk 8 v.n [] [],r.2.2.1,0)
def zeN (w:List UInt8):Option PV :=
 if w=[116,114,117,101] then some (.mk 1 1 [] []) else if w=[102,97,108,115,101] then some (.mk 1 0 [] []) else if w=[110,117,108,108] then some PV.none else none
def zbb (bs:List UInt8) (yq:Bool) (st:List Lv) (at_:Int) (t:Tk):PV×Int×Int :=
 if topW st=true/\(t.kind≠1\/t.vk≠5) then (PV.none,at_,11)
 else if t.kind=6 then (match zeN t.s with|none=>(PV.none,at_,11)|some v=>(v,at_,0))
 else if zaN t=true then refV bs yq at_ (tkV t)
 else (tkV t,at_,0)
def zcE (st:List Lv) (dict:Bool):List Lv×Int:=if topW st=true then (st,11) else if 64<=st.length then (st,15) else ({ dict:=dict,l:=[] }::st,0)
def twoV:List PV->List (PV×PV)
 | a::b::l=>(a,b)::twoV l
 | _=>[]
def zaS:List (PV×PV)->List PV
 | []=>[]
 |(a,b)::l=>a::b::zaS l
def sLt:List UInt8->List UInt8->Bool
 | [],[]=>false
 | [],_::_=>true
 | _::_,[]=>false
 | a::l,b::m=>if a.toNat<b.toNat then true else if b.toNat<a.toNat then false else sLt l m
def insV (x:PV×PV):List (PV×PV)->List (PV×PV)
 | []=>[x]
 | y::l=>if sLt y.1.s x.1.s then y::insV x l else x::y::l
def zen:List (PV×PV)->List (PV×PV)
 | []=>[]
 | x::l=>insV x (zen l)
def zcH:List (PV×PV)->Bool
 | x::y::l=>x.1.s==y.1.s||zcH (y::l)
 | _=>false
def zex (l:List PV):Option (List PV):=if zcH (zen (twoV l))=true then none else some (zaS (zen (twoV l)))
def zc3 (st:List Lv) (dict:Bool):PV×List Lv×Int :=
 match st with
 | []=>(PV.none,st,11)
 | v::rest =>
  if v.dict≠dict\/(dict=true/\zgQ v=false) then (PV.none,st,11)
  else if dict=false then (.mk 6 0 [] v.l,rest,0)
  else match zex v.l with
   | none=>(PV.none,st,16)
   | some l=>(.mk 7 0 [] l,rest,0)
def zbo (bs:List UInt8) (yq:Bool) (st:List Lv) (at_:Int) (t:Tk):Option PV×List Lv×Int×Int :=
 if t.kind=0 then (none,st,at_,10)
 else if t.kind=2\/t.kind=4 then (none,(zcE st (t.kind==4)).1,at_,(zcE st (t.kind==4)).2)
 else if t.kind=3\/t.kind=5 then
  (let r:=zc3 st (t.kind==5)
   if r.2.2=0 then (some r.1,r.2.1,at_,0) else (none,r.2.1,at_,r.2.2))
 else
  (let r:=zbb bs yq st at_ t
   if r.2.2≠0 then (none,st,r.2.1,r.2.2) else if 64<=st.length then (none,st,r.2.1,15) else (some r.1,st,r.2.1,0))
def valO (bs:List UInt8) (yq:Bool):Nat->List Lv->Int->Option (PV×Int×Int)
 | 0,_,_=>none
 | g+1,st,at_ =>
  let t:=zan bs at_ yq
  if t.2.2.2≠0 then some (PV.none,0,t.2.2.2) else
  match zbo bs yq st t.2.2.1 t.1 with
  |(v,st2,at2,e) =>
   if e≠0 then some (PV.none,0,e) else
   match v with
   | none=>valO bs yq g st2 at2
   | some x=>match st2 with
    | []=>some (x,at2,0)
    | top::rest=>valO bs yq g ({ top with l:=top.l++[x] }::rest) at2
theorem zbr {bs:List UInt8} {k:Int} (yq:Bool) (h:0<=k) (h2:k<=bs.length):k<=(zan bs k yq).2.2.1/\(zan bs k yq).2.2.1<=bs.length:=by
 rw [zcF yq h h2];have hs:=zfs h h2
 cases hd:bs.drop (zaL bs k) with
 | nil=>rw [zdx yq hd];exact ⟨hs.1,by have:=hs.2;show ((zaL bs k:Nat):Int)<=_;omega⟩
 | cons c t =>
  rw [zcs yq hd];have hl:(bs.drop (zaL bs k)).length=t.length+1:=by rw [hd];rfl
  rw [ym] at hl
  split
  ·rename_i h0
   have:=(tokV_some yq c t h0).2;exact ⟨by show k<=(bs.length:Int)-_;omega,by show (bs.length:Int)-_<=_;omega⟩
  ·exact ⟨hs.1,by have:=hs.2;show ((zaL bs k:Nat):Int)<=_;omega⟩
mutual
def zaZ:PV->Nat
 | .mk k _ _ l=>if k=6\/k=7 then 1+zbH l else 1
def zbH:List PV->Nat
 | []=>0
 | x::l=>max (zaZ x) (zbH l)
end
def ascV:List (PV×PV)->Bool
 | x::y::l=>sLt x.1.s y.1.s&&ascV (y::l)
 | _=>true
def zcT:List PV->Bool
 | []=>true
 | [a]=>a.kind==5
 | a::_::l=>a.kind==5&&zcT l
def ownC:PV->Int
 | .mk k n s l =>
  if k=0 then (if n=0/\s=[]/\l=[] then 0 else 2)
  else if k=1 then (if (n=0\/n=1)/\s=[]/\l=[] then 0 else 2)
  else if k=2\/k=3 then (if s=[]/\l=[] then zaM k n true else 2)
  else if k=4 then (if n=0/\l=[] then 0 else 2)
  else if k=5 then (if 127<s.length\/(0:UInt8)∈s then 17 else if n=0/\l=[] then 0 else 2)
  else if k=6 then (if n=0/\s=[] then 0 else 2)
  else if k=7 then (if n≠0\/s≠[]\/l.length % 2≠0 then 2 else if zcT l=false then 2 else if ascV (twoV l)=true then 0 else 16)
  else if k=8 then (if 1<=n/\n<=4096/\s=[]/\l=[] then 0 else 2)
  else 2
mutual
def zaK:PV->Int
 | .mk k n s l=>if ownC (.mk k n s l)≠0 then ownC (.mk k n s l) else if k=6\/k=7 then zbt l else 0
def zbt:List PV->Int
 | []=>0
 | x::l=>if zaK x≠0 then zaK x else zbt l
end
def zbG (v:PV):Int:=if 64<zaZ v then 15 else zaK v
theorem zcM:∀a b:List UInt8,sLt a b=false->a≠b->sLt b a=true
 | [],[],_,h=>absurd rfl h
 | [],_::_,h,_=>by simp [sLt] at h
 | _::_,[],_,_=>by simp [sLt]
 | x::a,y::b,h,hn=>by
  simp only [sLt] at h |-
  by_cases h1:x.toNat<y.toNat
  ·rw [yg h1] at h;cases h
  ·rw [yh h1] at h
   by_cases h2:y.toNat<x.toNat
   ·rw [yg h2]
   ·rw [yh h2] at h |-
    rw [yh h1];have Qk:x=y:=UInt8.toNat_inj.1 (by omega);subst Qk;exact zcM a b h fun e=>hn (by rw [e])
def zhr:List (PV×PV)->Prop
 | x::y::l=>sLt y.1.s x.1.s=false/\zhr (y::l)
 | _=>True
theorem zfb:∀a b:List UInt8,sLt a b=true->sLt b a=false
 | [],[],h=>by simp [sLt] at h
 | [],_::_,_=>by simp [sLt]
 | _::_,[],h=>by simp [sLt] at h
 | x::a,y::b,h=>by
  simp only [sLt] at h |-
  by_cases h1:x.toNat<y.toNat
  ·rw [yh (by omega),yg h1]
  ·rw [yh h1] at h
   by_cases h2:y.toNat<x.toNat
   ·rw [yg h2] at h;cases h
   ·rw [yh h2] at h
    rw [yh h2,yh h1];exact zfb a b h
theorem ins_head (x:PV×PV):∀l,∃z t,insV x l=z::t/\(z=x\/∃t',l=z::t')
 | []=>⟨x,[],rfl,.inl rfl⟩
 | y::l=>by
  simp only [insV]
  split
  ·exact ⟨y,_,rfl,.inr ⟨l,rfl⟩⟩
  ·exact ⟨x,_,rfl,.inl rfl⟩
theorem zgT {x:PV×PV} {l:List (PV×PV)} (h:zhr l) (hh:∀z t,l=z::t->sLt z.1.s x.1.s=false):zhr (x::l):=by
 cases l with
 | nil=>trivial
 | cons y t=>exact ⟨hh y t rfl,h⟩
theorem notGt_tail {x:PV×PV} {l:List (PV×PV)} (h:zhr (x::l)):zhr l:=by
 cases l with
 | nil=>trivial
 | cons y t=>exact h.2
theorem ins_notGt (x:PV×PV):∀l,zhr l->zhr (insV x l)
 | [],_=>trivial
 | y::l,h=>by
  simp only [insV]
  split
  ·rename_i hy
   refine zgT (ins_notGt x l (notGt_tail h)) fun z t hz=>?_;obtain ⟨z',t',e1,e2⟩:=ins_head x l;rw [e1] at hz;have Qw:z'=z:=(List.cons.inj hz).1;rcases e2 with e2|⟨t2,e2⟩
   ·rw [<-Qw,e2];exact zfb _ _ hy
   ·rw [<-Qw];subst e2;exact h.1
  ·rename_i hy
   exact zgT h fun z t hz=>by
    have:y=z:=(List.cons.inj hz).1;rw [<-this]
    simpa using hy
theorem zeA:∀l,zhr (zen l)
 | []=>trivial
 | x::l=>ins_notGt x _ (zeA l)
theorem ins_perm (x:PV×PV):∀l,(insV x l).Perm (x::l)
 | []=>List.Perm.refl _
 | y::l=>by
  simp only [insV]
  split
  ·exact ((ins_perm x l).cons y).trans (List.Perm.swap x y l)
  ·exact List.Perm.refl _
theorem sort_perm:∀l,(zen l).Perm l
 | []=>List.Perm.refl _
 | x::l=>(ins_perm x _).trans ((sort_perm l).cons x)
theorem two_flat:∀l:List PV,l.length % 2=0->zaS (twoV l)=l
 | [],_=>rfl
 | [_],h=>by simp at h
 | a::b::l,h=>by simp only [twoV,zaS];rw [two_flat l (by simp at h;omega)]
theorem zfu {x:PV}:∀p,x∈zaS p↔∃q∈p,x=q.1\/x=q.2
 | []=>by simp [zaS]
 |(a,b)::l=>by
  simp only [zaS,List.mem_cons,zfu l]
  constructor
  ·rintro (h|h|⟨q,hq,h⟩)
   ·exact ⟨(a,b),.inl rfl,.inl h⟩
   ·exact ⟨(a,b),.inl rfl,.inr h⟩
   ·exact ⟨q,.inr hq,h⟩
  ·rintro ⟨q,rfl|hq,h⟩
   ·exact h.elim .inl (fun h=>.inr (.inl h))
   ·exact .inr (.inr ⟨q,hq,h⟩)
theorem zgU:∀p:List (PV×PV),zcT (zaS p)=p.all fun q=>q.1.kind==5
 | []=>rfl
 |(a,b)::l=>by simp only [zaS,zcT,List.all_cons];rw [zgU l]
def tkOk (t:Tk):Prop:=0<=t.kind/\t.kind<=6/\(t.kind=1->ownC (tkV t)=0/\t.vk≠6/\t.vk≠7)
theorem tkn {t:Tk} (n:Nat) (e:t.kind=n) (h:n<=6) (h1:n≠1):tkOk t:=⟨by omega,by omega,fun h2=>by omega⟩
theorem tk1 {t:Tk} (e:t.kind=1) (ho:ownC (tkV t)=0) (h6:t.vk≠6) (h7:t.vk≠7):tkOk t:=⟨by omega,by omega,fun _=>⟨ho,h6,h7⟩⟩
theorem own_num {k n:Int} (hk:k=2\/k=3) (hc:zaM k n true=0):ownC (.mk k n [] [])=0:=by
 simp only [ownC];rw [yh (by omega),yh (by omega),yg hk,yg ⟨by trivial,by trivial⟩];exact hc
theorem nameV_ok {w o:List UInt8} (h:zdR w=some o):¬(127<o.length\/(0:UInt8)∈o):=by
 unfold zdR at h
 split at h
 ·cases h
 ·split at h
  ·cases h
  ·rename_i hn
   cases h
   exact hn
theorem tokV_ok (yq:Bool) (c:UInt8) (t:List UInt8) (h:(tokV yq c t).1=0):tkOk (tokV yq c t).2.1:=by
 unfold tokV at h |-
 split
 ·rename_i q0
  rw [yg q0] at h
  try simp only at h |-
  split
  ·rename_i q1;rw [yg q1] at h;cases h
  ·rename_i q1
   rw [yh q1] at h
   split
   ·rename_i q2
    rw [yg q2] at h;have hc:=parseV_check _ h
    try simp only at hc
    have hk:(zaP ((c::t).takeWhile isRg)).1=2\/(zaP ((c::t).takeWhile isRg)).1=3:=by
     unfold zaM at hc
     split at hc
     ·rename_i hq
      rcases hq.2 with hq|hq
      ·exact .inl hq.1
      ·exact .inr hq.1
     ·cases hc
    refine tk1 rfl ?_ ?_ ?_
    ·exact own_num hk hc
    ·show (zaP _).1≠6;omega
    ·show (zaP _).1≠7;omega
   ·exact (by first|exact tkn 0 rfl (by decide) (by decide)|exact tkn 2 rfl (by decide) (by decide)|exact tkn 3 rfl (by decide) (by decide)|exact tkn 4 rfl (by decide) (by decide)|exact tkn 5 rfl (by decide) (by decide)|exact tkn 6 rfl (by decide) (by decide))
 ·rename_i q0
  rw [yh q0] at h
  split
  ·exact (by first|exact tkn 0 rfl (by decide) (by decide)|exact tkn 2 rfl (by decide) (by decide)|exact tkn 3 rfl (by decide) (by decide)|exact tkn 4 rfl (by decide) (by decide)|exact tkn 5 rfl (by decide) (by decide)|exact tkn 6 rfl (by decide) (by decide))
  ·rename_i q1
   rw [yh q1] at h
   split
   ·exact (by first|exact tkn 0 rfl (by decide) (by decide)|exact tkn 2 rfl (by decide) (by decide)|exact tkn 3 rfl (by decide) (by decide)|exact tkn 4 rfl (by decide) (by decide)|exact tkn 5 rfl (by decide) (by decide)|exact tkn 6 rfl (by decide) (by decide))
   ·rename_i q2
    rw [yh q2] at h
    split
    ·split
     ·exact (by first|exact tkn 0 rfl (by decide) (by decide)|exact tkn 2 rfl (by decide) (by decide)|exact tkn 3 rfl (by decide) (by decide)|exact tkn 4 rfl (by decide) (by decide)|exact tkn 5 rfl (by decide) (by decide)|exact tkn 6 rfl (by decide) (by decide))
     ·split
      ·exact (by first|exact tkn 0 rfl (by decide) (by decide)|exact tkn 2 rfl (by decide) (by decide)|exact tkn 3 rfl (by decide) (by decide)|exact tkn 4 rfl (by decide) (by decide)|exact tkn 5 rfl (by decide) (by decide)|exact tkn 6 rfl (by decide) (by decide))
      ·simp only
       split
       ·exact tk1 rfl (by show ownC (.mk 4 0 _ [])=0;simp [ownC]) (by show (4:Int)≠6;decide) (by show (4:Int)≠7;decide)
       ·split
        ·exact (by first|exact tkn 0 rfl (by decide) (by decide)|exact tkn 2 rfl (by decide) (by decide)|exact tkn 3 rfl (by decide) (by decide)|exact tkn 4 rfl (by decide) (by decide)|exact tkn 5 rfl (by decide) (by decide)|exact tkn 6 rfl (by decide) (by decide))
        ·exact (by first|exact tkn 0 rfl (by decide) (by decide)|exact tkn 2 rfl (by decide) (by decide)|exact tkn 3 rfl (by decide) (by decide)|exact tkn 4 rfl (by decide) (by decide)|exact tkn 5 rfl (by decide) (by decide)|exact tkn 6 rfl (by decide) (by decide))
    ·rename_i q3
     rw [yh q3] at h
     split
     ·split
      ·exact (by first|exact tkn 0 rfl (by decide) (by decide)|exact tkn 2 rfl (by decide) (by decide)|exact tkn 3 rfl (by decide) (by decide)|exact tkn 4 rfl (by decide) (by decide)|exact tkn 5 rfl (by decide) (by decide)|exact tkn 6 rfl (by decide) (by decide))
      ·split
       ·exact (by first|exact tkn 0 rfl (by decide) (by decide)|exact tkn 2 rfl (by decide) (by decide)|exact tkn 3 rfl (by decide) (by decide)|exact tkn 4 rfl (by decide) (by decide)|exact tkn 5 rfl (by decide) (by decide)|exact tkn 6 rfl (by decide) (by decide))
       ·exact (by first|exact tkn 0 rfl (by decide) (by decide)|exact tkn 2 rfl (by decide) (by decide)|exact tkn 3 rfl (by decide) (by decide)|exact tkn 4 rfl (by decide) (by decide)|exact tkn 5 rfl (by decide) (by decide)|exact tkn 6 rfl (by decide) (by decide))
     ·rename_i q4
      rw [yh q4] at h
      split
      ·split
       ·exact (by first|exact tkn 0 rfl (by decide) (by decide)|exact tkn 2 rfl (by decide) (by decide)|exact tkn 3 rfl (by decide) (by decide)|exact tkn 4 rfl (by decide) (by decide)|exact tkn 5 rfl (by decide) (by decide)|exact tkn 6 rfl (by decide) (by decide))
       ·exact tk1 rfl (by show ownC (.mk 4 0 _ [])=0;simp [ownC]) (by show (4:Int)≠6;decide) (by show (4:Int)≠7;decide)
      ·rename_i q5
       rw [yh q5] at h
       split
       ·simp only
        split
        ·exact (by first|exact tkn 0 rfl (by decide) (by decide)|exact tkn 2 rfl (by decide) (by decide)|exact tkn 3 rfl (by decide) (by decide)|exact tkn 4 rfl (by decide) (by decide)|exact tkn 5 rfl (by decide) (by decide)|exact tkn 6 rfl (by decide) (by decide))
        ·split
         ·exact (by first|exact tkn 0 rfl (by decide) (by decide)|exact tkn 2 rfl (by decide) (by decide)|exact tkn 3 rfl (by decide) (by decide)|exact tkn 4 rfl (by decide) (by decide)|exact tkn 5 rfl (by decide) (by decide)|exact tkn 6 rfl (by decide) (by decide))
         ·rename_i o ho
          have hn:=nameV_ok ho;exact tk1 rfl (by show ownC (.mk 5 0 o [])=0;simp only [ownC];simp [hn]) (by show (5:Int)≠6;decide) (by show (5:Int)≠7;decide)
       ·exact (by first|exact tkn 0 rfl (by decide) (by decide)|exact tkn 2 rfl (by decide) (by decide)|exact tkn 3 rfl (by decide) (by decide)|exact tkn 4 rfl (by decide) (by decide)|exact tkn 5 rfl (by decide) (by decide)|exact tkn 6 rfl (by decide) (by decide))
theorem zfq {bs:List UInt8} {k:Int} (yq:Bool) (h:0<=k) (h2:k<=bs.length):tkOk (zan bs k yq).1:=by
 rw [zcF yq h h2]
 cases hd:bs.drop (zaL bs k) with
 | nil=>rw [zdx yq hd];exact (by first|exact tkn 0 rfl (by decide) (by decide)|exact tkn 2 rfl (by decide) (by decide)|exact tkn 3 rfl (by decide) (by decide)|exact tkn 4 rfl (by decide) (by decide)|exact tkn 5 rfl (by decide) (by decide)|exact tkn 6 rfl (by decide) (by decide))
 | cons c t =>
  rw [zcs yq hd]
  split
  ·rename_i h0;exact tokV_ok yq c t h0
  ·exact (by first|exact tkn 0 rfl (by decide) (by decide)|exact tkn 2 rfl (by decide) (by decide)|exact tkn 3 rfl (by decide) (by decide)|exact tkn 4 rfl (by decide) (by decide)|exact tkn 5 rfl (by decide) (by decide)|exact tkn 6 rfl (by decide) (by decide))
theorem zes {bs:List UInt8} {k:Int} {yq:Bool} (h:0<=k) (h2:k<=bs.length) (he:(zan bs k yq).2.2.2=0) (hk:(zan bs k yq).1.kind≠0):k<(zan bs k yq).2.2.1:=by
 have:=(nextV_places yq h h2).2.2 he hk;omega
theorem refV_at {bs:List UInt8} {yq:Bool} {k:Int} (h:0<=k) (h2:k<=bs.length) (v:PV):k<=(refV bs yq k v).2.1/\(refV bs yq k v).2.1<=bs.length:=by
 obtain ⟨g1,g2⟩:=zbr yq h h2;unfold refV;simp only
 split
 ·exact ⟨Int.le_refl _,h2⟩
 ·obtain ⟨r1,r2⟩:=zbr (bs:=bs) (k:=(zan bs k yq).2.2.1) yq (by omega) g2
  split
  ·exact ⟨Int.le_refl _,h2⟩
  ·split
   ·exact ⟨Int.le_refl _,h2⟩
   ·exact ⟨Int.le_trans g1 r1,r2⟩
theorem singleV_at {bs:List UInt8} {yq:Bool} {k:Int} (h:0<=k) (h2:k<=bs.length) (st:List Lv) (t:Tk):k<=(zbb bs yq st k t).2.1/\(zbb bs yq st k t).2.1<=bs.length:=by
 unfold zbb
 split
 ·exact ⟨Int.le_refl _,h2⟩
 ·split
  ·split
   ·exact ⟨Int.le_refl _,h2⟩
   ·exact ⟨Int.le_refl _,h2⟩
  ·split
   ·exact refV_at h h2 _
   ·exact ⟨Int.le_refl _,h2⟩
theorem stepV_at {bs:List UInt8} {yq:Bool} {k:Int} (h:0<=k) (h2:k<=bs.length) (st:List Lv) (t:Tk):k<=(zbo bs yq st k t).2.2.1/\(zbo bs yq st k t).2.2.1<=bs.length:=by
 unfold zbo
 split
 ·exact ⟨Int.le_refl _,h2⟩
 ·split
  ·exact ⟨Int.le_refl _,h2⟩
  ·split
   ·simp only
    split
    ·exact ⟨Int.le_refl _,h2⟩
    ·exact ⟨Int.le_refl _,h2⟩
   ·simp only
    have:=singleV_at (yq:=yq) h h2 st t
    split
    ·exact this
    ·split
     ·exact this
     ·exact this
theorem zhd {bs:List UInt8} {yq:Bool} {k:Int} {st:List Lv} {t:Tk} (h:(zbo bs yq st k t).2.2.2=0):t.kind≠0:=by
 intro e;unfold zbo at h;rw [yg e] at h
 cases h
theorem zgB (bs:List UInt8) (yq:Bool):∀(g:Nat) (st:List Lv) (k:Int),0<=k->k<=bs.length->((bs.length:Int)-k).toNat<g->∃V,valO bs yq g st k=some V
 | 0,_,_,_,_,h=>by omega
 | g+1,st,k,h,h2,hg=>by
  unfold valO;simp only
  by_cases he:(zan bs k yq).2.2.2≠0
  ·rw [yg he];exact ⟨_,rfl⟩
  ·rw [yh he]
   have Qg:(zan bs k yq).2.2.2=0:=by simpa using he
   obtain ⟨g1,g2⟩:=zbr yq h h2;have Qd:=zes h h2 Qg;generalize (zan bs k yq).2.2.1=to at *;generalize (zan bs k yq).1=t at *;obtain ⟨s1,s2⟩:=stepV_at (bs:=bs) (yq:=yq) (k:=to) (by omega) g2 st t;have sk:=zhd (bs:=bs) (yq:=yq) (k:=to) (st:=st) (t:=t);generalize zbo bs yq st to t=Z at *;obtain ⟨v,st2,at2,e2⟩:=Z;simp only at s1 s2 sk |-
   by_cases h0:e2≠0
   ·rw [yg h0];exact ⟨_,rfl⟩
   ·rw [yh h0]
    have hk:=Qd (sk (by simpa using h0))
    cases v with
    | none=>exact zgB bs yq g st2 at2 (by omega) s2 (by omega)
    | some x =>
     cases st2 with
     | nil=>exact ⟨_,rfl⟩
     | cons top rest=>exact zgB bs yq g _ at2 (by omega) s2 (by omega)
def insK (x:PV×PV):List (PV×PV)->List (PV×PV)
 | []=>[x]
 | y::l=>if sLt x.1.s y.1.s then x::y::l else y::insK x l
def hasK (s:List UInt8) (l:List (PV×PV)):Bool:=l.any fun y=>y.1.s==s
def repK (x:PV×PV):List (PV×PV)->List (PV×PV)
 | []=>[]
 | y::l=>if y.1.s=x.1.s then (y.1,x.2)::l else y::repK x l
def putK (x:PV×PV) (l:List (PV×PV)):List (PV×PV):=if hasK x.1.s l then repK x l else insK x l
def docS:List (PV×PV)->List (PV×PV)->Bool->List (PV×PV)×Bool
 | [],l,tw=>(l,tw)
 | x::p,l,tw=>docS p (putK x l) (tw||hasK x.1.s l)
def ascP:List (PV×PV)->Prop
 | []=>True
 | x::l=>(∀y∈l,sLt x.1.s y.1.s=true)/\ascP l
theorem zhh:∀a b c:List UInt8,sLt a b=true->sLt b c=true->sLt a c=true
 | [],[],_,h,_=>by simp [sLt] at h
 | [],_::_,[],_,h=>by simp [sLt] at h
 | [],_::_,_::_,_,_=>by simp [sLt]
 | _::_,[],_,h,_=>by simp [sLt] at h
 | _::_,_::_,[],_,h=>by simp [sLt] at h
 | x::a,y::b,z::c,h1,h2=>by
  simp only [sLt] at h1 h2 |-
  by_cases p1:x.toNat<y.toNat
  ·by_cases p2:y.toNat<z.toNat
   ·rw [yg (by omega)]
   ·rw [yh p2] at h2
    by_cases p3:z.toNat<y.toNat
    ·rw [yg p3] at h2;cases h2
    ·rw [yg (by omega)]
  ·rw [yh p1] at h1
   by_cases p4:y.toNat<x.toNat
   ·rw [yg p4] at h1;cases h1
   ·rw [yh p4] at h1
    by_cases p2:y.toNat<z.toNat
    ·rw [yg (by omega)]
    ·rw [yh p2] at h2
     by_cases p3:z.toNat<y.toNat
     ·rw [yg p3] at h2;cases h2
     ·rw [yh p3] at h2
      rw [yh (by omega),yh (by omega)];exact zhh a b c h1 h2
theorem zdA:∀a:List UInt8,sLt a a=false
 | []=>rfl
 | x::a=>by simp only [sLt];rw [yh (by omega),yh (by omega)];exact zdA a
theorem zhF {x y:PV×PV}:∀l,y∈insK x l↔y=x\/y∈l
 | []=>by simp [insK]
 | z::l=>by
  simp only [insK]
  split
  ·simp
  ·rw [List.mem_cons,zhF l,List.mem_cons]
   constructor
   ·rintro (h|h|h)
    ·exact .inr (.inl h)
    ·exact .inl h
    ·exact .inr (.inr h)
   ·rintro (h|h|h)
    ·exact .inr (.inl h)
    ·exact .inl h
    ·exact .inr (.inr h)
theorem zgq (x:PV×PV):∀l,(insK x l).Perm (x::l)
 | []=>List.Perm.refl _
 | y::l=>by
  simp only [insK]
  split
  ·exact List.Perm.refl _
  ·exact ((zgq x l).cons y).trans (List.Perm.swap x y l)
theorem insK_asc {x:PV×PV}:∀l,ascP l->hasK x.1.s l=false->ascP (insK x l)
 | [],_,_=>⟨fun y hy=>(by cases hy),trivial⟩
 | y::l,h,hh=>by
  simp only [hasK,List.any_cons,Bool.or_eq_false_iff,yf] at hh;simp only [insK]
  split
  ·rename_i Qc
   refine ⟨fun z hz=>?_,h⟩;rcases List.mem_cons.1 hz with rfl|hz
   ·exact Qc
   ·exact zhh _ _ _ Qc (h.1 z hz)
  ·rename_i Qc
   have QC:sLt y.1.s x.1.s=true:=zcM _ _ (by simpa using Qc) (fun e=>hh.1 e.symm);refine ⟨fun z hz=>?_,insK_asc l h.2 hh.2⟩;rcases (zhF l).1 hz with rfl|hz
   ·exact QC
   ·exact h.1 z hz
theorem zg5:∀l m:List (PV×PV),ascP l->ascP m->l.Perm m->l=m
 | [],m,_,_,h=>(List.Perm.nil_eq h).symm▸rfl
 | x::l,[],_,_,h=>absurd h.length_eq (by simp)
 | x::l,y::m,hl,hm,h=>by
  have Qk:x=y:=by
   have h1:x∈y::m:=h.mem_iff.1 (List.mem_cons_self);have h2:y∈x::l:=h.mem_iff.2 (List.mem_cons_self);rcases List.mem_cons.1 h1 with h1|h1
   ·exact h1
   ·rcases List.mem_cons.1 h2 with h2|h2
    ·exact h2.symm
    ·have a1:=hm.1 x h1
     have a2:=hl.1 y h2;rw [zfb _ _ a1] at a2
     cases a2
  subst Qk;rw [zg5 l m hl.2 hm.2 ((List.perm_cons x).1 h)]
theorem zeH:∀l:List (PV×PV),zhr l->zcH l=false->ascP l
 | [],_,_=>trivial
 | [x],_,_=>⟨fun y hy=>(by cases hy),trivial⟩
 | x::y::l,h,ht=>by
  simp only [zcH,Bool.or_eq_false_iff,yf] at ht;have hr:=zeH (y::l) h.2 ht.2;have Qk:sLt x.1.s y.1.s=true:=zcM _ _ h.1 (fun e=>ht.1 e.symm);refine ⟨fun z hz=>?_,hr⟩;rcases List.mem_cons.1 hz with rfl|hz
  ·exact Qk
  ·exact zhh _ _ _ Qk (hr.1 z hz)
def zfU:List (PV×PV)->Prop
 | []=>True
 | x::l=>(∀y∈l,y.1.s≠x.1.s)/\zfU l
theorem zcy {l m:List (PV×PV)} (h:l.Perm m):zfU l->zfU m:=by
 induction h with
 | nil=>exact id
 | cons x h ih=>exact fun ⟨h1,h2⟩=>⟨fun y hy=>h1 y (h.mem_iff.2 hy),ih h2⟩
 | swap x y l =>
  rintro ⟨h1,h2,h3⟩;refine ⟨fun z hz=>?_,fun z hz=>h1 z (List.mem_cons_of_mem _ hz),h3⟩;rcases List.mem_cons.1 hz with rfl|hz
  ·exact fun e=>h1 x (List.mem_cons_self) e.symm
  ·exact h2 z hz
 | trans _ _ ih1 ih2=>exact fun h=>ih2 (ih1 h)
theorem zgx:∀l:List (PV×PV),zcH l=true->¬zfU l
 | [],h,_=>by cases h
 | [_],h,_=>by cases h
 | x::y::l,h,hn=>by
  simp only [zcH,Bool.or_eq_true,beq_iff_eq] at h;rcases h with h|h
  ·exact hn.1 y (List.mem_cons_self) h.symm
  ·exact zgx (y::l) h hn.2
theorem zgk:∀l:List (PV×PV),ascP l->zfU l
 | [],_=>trivial
 | x::l,h=>⟨fun y hy e=>(by have:=h.1 y hy;rw [e,zdA] at this;cases this),zgk l h.2⟩
theorem hasK_no {s:List UInt8} {l:List (PV×PV)}:hasK s l=false↔∀y∈l,y.1.s≠s:=by
 unfold hasK;rw [List.any_eq_false];simp
theorem docS_tw:∀p l,(docS p l true).2=true
 | [],_=>rfl
 | x::p,l=>by simp only [docS,Bool.true_or];exact docS_tw p _
theorem docS_is:∀(p l:List (PV×PV)),ascP l->((docS p l false).2=false->ascP (docS p l false).1/\(docS p l false).1.Perm (l++p))/\((docS p l false).2=true->¬zfU (l++p))
 | [],l,h=>⟨fun _=>⟨h,by simp [docS]⟩,fun e=>by cases e⟩
 | x::p,l,h=>by
  simp only [docS,Bool.false_or]
  cases hk:hasK x.1.s l with
  | true =>
   refine ⟨fun e=>?_,fun _ hn=>?_⟩
   ·rw [docS_tw] at e;cases e
   ·have h1:=zcy (List.perm_middle) hn
    have h2:hasK x.1.s l=false:=hasK_no.2 fun y hy=>h1.1 y (List.mem_append_left _ hy);rw [hk] at h2;cases h2
  | false =>
   have e1:putK x l=insK x l:=by unfold putK;rw [hk];rfl
   rw [e1];obtain ⟨r1,r2⟩:=docS_is p (insK x l) (insK_asc l h hk);have hp:(insK x l++p).Perm (l++x::p):=((zgq x l).append_right p).trans (List.perm_middle.symm);exact ⟨fun e=>⟨(r1 e).1,(r1 e).2.trans hp⟩,fun e hn=>r2 e (zcy hp.symm hn)⟩
theorem pairs_doc (l:List PV):zex l=if (docS (twoV l) [] false).2=true then none else some (zaS (docS (twoV l) [] false).1):=by
 obtain ⟨r1,r2⟩:=docS_is (twoV l) [] trivial;have hp:=sort_perm (twoV l);unfold zex
 cases hd:(docS (twoV l) [] false).2 with
 | true =>
  have hn:=r2 hd
  have ht:zcH (zen (twoV l))=true:=by
   cases h:zcH (zen (twoV l)) with
   | true=>rfl
   | false=>exact absurd (zcy hp (zgk _ (zeH _ (zeA _) h))) hn
  rw [yg ht,yg rfl]
 | false =>
  obtain ⟨q1,q2⟩:=r1 hd;have hn:zfU (twoV l):=zcy q2 (zgk _ q1)
  have ht:zcH (zen (twoV l))=false:=by
   cases h:zcH (zen (twoV l)) with
   | false=>rfl
   | true=>exact absurd (zcy hp.symm hn) (zgx _ h)
  rw [yh (by simp [ht]),yh (by simp)];rw [zg5 _ _ (zeH _ (zeA _) ht) q1 (hp.trans q2.symm)]
theorem docS_snoc:∀(p:List (PV×PV)) (x:PV×PV) (l:List (PV×PV)) (tw:Bool),docS (p++[x]) l tw=(putK x (docS p l tw).1,(docS p l tw).2||hasK x.1.s (docS p l tw).1)
 | [],_,_,_=>rfl
 | y::p,x,l,tw=>by simp only [List.cons_append,docS];exact docS_snoc p x _ _
theorem two_snoc:∀(l:List PV) (a b:PV),l.length % 2=0->twoV (l++[a,b])=twoV l++[(a,b)]
 | [],_,_,_=>rfl
 | [_],_,_,h=>by simp at h
 | x::y::l,a,b,h=>by simp only [List.cons_append,twoV];rw [two_snoc l a b (by simp at h;omega)]
def refD (bs:List UInt8) (yq:Bool) (at_ n:Int):Bool×Int×Int :=
 let g:=zan bs at_ yq
 if g.2.2.2=6 then (false,0,6) else
 if g.2.2.2≠0\/zaN g.1=false then (false,0,0) else
 let r:=zan bs g.2.2.1 yq
 if r.2.2.2=6 then (false,0,6) else
 if r.2.2.2≠0\/r.1.kind≠6\/r.1.s≠[82] then (false,0,0) else
 if n<1\/4096<n\/g.1.vn≠0 then (false,0,26) else (true,r.2.2.1,0)
def zbC (bs:List UInt8) (yq:Bool) (t:Tk) (tto:Int):PV×Int×Int :=
 if t.kind=6 then (match zeN t.s with|none=>(PV.none,0,11)|some v=>(v,tto,0))
 else if zaN t=true then
  (if (refD bs yq tto t.vn).2.2≠0 then (PV.none,0,(refD bs yq tto t.vn).2.2) else if (refD bs yq tto t.vn).1=true then (.mk 8 t.vn [] [],(refD bs yq tto t.vn).2.1,0) else (tkV t,tto,0))
 else (tkV t,tto,0)
def arrD (bs:List UInt8) (yq:Bool) (f:Tk->Int->PV×Int×Int):Nat->List PV->Int->PV×Int×Int
 | 0,_,_=>(PV.none,0,10)
 | r+1,l,at_ =>
  if (zan bs at_ yq).2.2.2≠0 then (PV.none,0,(zan bs at_ yq).2.2.2)
  else if (zan bs at_ yq).1.kind=3 then (.mk 6 0 [] l,(zan bs at_ yq).2.2.1,0)
  else if (f (zan bs at_ yq).1 (zan bs at_ yq).2.2.1).2.2≠0 then (PV.none,0,(f (zan bs at_ yq).1 (zan bs at_ yq).2.2.1).2.2)
  else arrD bs yq f r (l++[(f (zan bs at_ yq).1 (zan bs at_ yq).2.2.1).1]) (f (zan bs at_ yq).1 (zan bs at_ yq).2.2.1).2.1
def zdm (bs:List UInt8) (yq:Bool) (f:Tk->Int->PV×Int×Int) (d:Nat):Nat->List (PV×PV)->Bool->Int->PV×Int×Int
 | 0,_,_,_=>(PV.none,0,10)
 | r+1,ps,tw,at_ =>
  let t:=zan bs at_ yq
  if t.2.2.2≠0 then (PV.none,0,t.2.2.2)
  else if t.1.kind=5 then (if tw=true then (PV.none,0,16) else (.mk 7 0 [] (zaS ps),t.2.2.1,0))
  else if t.1.kind=0 then (PV.none,0,10)
  else if t.1.kind≠1\/t.1.vk≠5 then (PV.none,0,11)
  else if d=0 then (PV.none,0,15)
  else
   let u:=zan bs t.2.2.1 yq
   if u.2.2.2≠0 then (PV.none,0,u.2.2.2)
   else if (f u.1 u.2.2.1).2.2≠0 then (PV.none,0,(f u.1 u.2.2.1).2.2)
   else zdm bs yq f d r (putK (.mk 5 0 t.1.vs [],(f u.1 u.2.2.1).1) ps) (tw||hasK t.1.vs ps) (f u.1 u.2.2.1).2.1
def vlD (bs:List UInt8) (yq:Bool):Nat->Tk->Int->PV×Int×Int
 | 0,t,tto =>
  if t.kind=0 then (PV.none,0,10) else if t.kind=2\/t.kind=4 then (PV.none,0,15) else if t.kind=3\/t.kind=5 then (PV.none,0,11)
  else if (zbC bs yq t tto).2.2≠0 then (PV.none,0,(zbC bs yq t tto).2.2) else (PV.none,0,15)
 | d+1,t,tto =>
  if t.kind=0 then (PV.none,0,10)
  else if t.kind=2 then arrD bs yq (vlD bs yq d) (bs.length+1) [] tto
  else if t.kind=4 then zdm bs yq (vlD bs yq d) d (bs.length+1) [] false tto
  else if t.kind=3\/t.kind=5 then (PV.none,0,11)
  else zbC bs yq t tto
def zch (bs:List UInt8) (yq:Bool) (at_:Int):PV×Int×Int :=
 if (zan bs at_ yq).2.2.2≠0 then (PV.none,0,(zan bs at_ yq).2.2.2) else vlD bs yq 64 (zan bs at_ yq).1 (zan bs at_ yq).2.2.1
theorem refD_is {bs:List UInt8} {yq:Bool} {k:Int} (v:PV) (n:Int) (hn:v.n=n) :
  (refV bs yq k v).2.2=(refD bs yq k n).2.2/\((refD bs yq k n).2.2=0->(refV bs yq k v).1=(if (refD bs yq k n).1=true then .mk 8 n [] [] else v)/\(refV bs yq k v).2.1=if (refD bs yq k n).1=true then (refD bs yq k n).2.1 else k):=by
 unfold refV refD;simp only
 by_cases g6:(zan bs k yq).2.2.2=6
 ·rw [yg (.inl (by rw [g6];decide)),yg g6,g6]
  exact ⟨rfl,fun h=>by cases h⟩
 ·rw [yh g6]
  by_cases hc:(zan bs k yq).2.2.2≠0\/zaN (zan bs k yq).1=false
  ·rw [yg hc,yg hc]
   have:moreV (zan bs k yq).2.2.2=0:=yh g6;exact ⟨this,fun _=>⟨rfl,rfl⟩⟩
  ·rw [yh hc,yh hc]
   by_cases r6:(zan bs (zan bs k yq).2.2.1 yq).2.2.2=6
   ·rw [yg (.inl (by rw [r6];decide)),yg r6,r6]
    exact ⟨rfl,fun h=>by cases h⟩
   ·rw [yh r6]
    by_cases hd:(zan bs (zan bs k yq).2.2.1 yq).2.2.2≠0\/(zan bs (zan bs k yq).2.2.1 yq).1.kind≠6\/(zan bs (zan bs k yq).2.2.1 yq).1.s≠[82]
    ·rw [yg hd,yg hd]
     have:moreV (zan bs (zan bs k yq).2.2.1 yq).2.2.2=0:=yh r6;exact ⟨this,fun _=>⟨rfl,rfl⟩⟩
    ·rw [yh hd,yh hd,hn]
     by_cases he:n<1\/4096<n\/(zan bs k yq).1.vn≠0
     ·rw [yg he,yg he]
      exact ⟨rfl,fun h=>by cases h⟩
     ·rw [yh he,yh he]
      exact ⟨rfl,fun _=>⟨rfl,rfl⟩⟩
theorem singD_is {bs:List UInt8} {yq:Bool} {st:List Lv} {tto:Int} {t:Tk} (hw:topW st=false) :
  ((zbC bs yq t tto).2.2=0->zbb bs yq st tto t=((zbC bs yq t tto).1,(zbC bs yq t tto).2.1,0))/\((zbC bs yq t tto).2.2≠0->(zbb bs yq st tto t).2.2=(zbC bs yq t tto).2.2):=by
 have hs:zbb bs yq st tto t=(if t.kind=6 then (match zeN t.s with|none=>(PV.none,tto,11)|some v=>(v,tto,0)) else if zaN t=true then refV bs yq tto (tkV t) else (tkV t,tto,0)):=by
  unfold zbb;rw [yh (by rintro ⟨h,-⟩;rw [hw] at h;cases h)]
  all_goals (try rfl)
 rw [hs];unfold zbC
 by_cases k6:t.kind=6
 ·simp only [yg k6]
  cases hq:zeN t.s with
  | none=>exact ⟨fun h=>(by cases h),fun _=>rfl⟩
  | some v=>exact ⟨fun _=>rfl,fun h=>absurd rfl h⟩
 ·simp only [yh k6]
  by_cases hq:zaN t=true
  ·simp only [yg hq]
   obtain ⟨r1,r2⟩:=refD_is (bs:=bs) (yq:=yq) (k:=tto) (tkV t) t.vn rfl
   by_cases he:(refD bs yq tto t.vn).2.2≠0
   ·simp only [yg he]
    exact ⟨fun h=>absurd h he,fun _=>r1⟩
   ·simp only [yh he]
    have Qg:(refD bs yq tto t.vn).2.2=0:=by simpa using he
    obtain ⟨p1,p2⟩:=r2 Qg;rw [Qg] at r1
    by_cases hb:(refD bs yq tto t.vn).1=true
    ·simp only [yg hb] at p1 p2 |-
     exact ⟨fun _=>Prod.ext p1 (Prod.ext p2 r1),fun h=>absurd rfl h⟩
    ·simp only [yh hb] at p1 p2 |-
     exact ⟨fun _=>Prod.ext p1 (Prod.ext p2 r1),fun h=>absurd rfl h⟩
  ·simp only [yh hq]
   exact ⟨fun _=>by trivial,fun h=>absurd rfl h⟩
def contO (bs:List UInt8) (yq:Bool) (g:Nat) (st:List Lv) (at_:Int) (x:PV):Option (PV×Int×Int) :=
 match st with
 | []=>some (x,at_,0)
 | top::rest=>valO bs yq g ({ top with l:=top.l++[x] }::rest) at_
def aftO (bs:List UInt8) (yq:Bool) (g:Nat) (st:List Lv) (tto:Int) (t:Tk):Option (PV×Int×Int) :=
 if (zbo bs yq st tto t).2.2.2≠0 then some (PV.none,0,(zbo bs yq st tto t).2.2.2) else
 match (zbo bs yq st tto t).1 with
 | none=>valO bs yq g (zbo bs yq st tto t).2.1 (zbo bs yq st tto t).2.2.1
 | some x=>contO bs yq g (zbo bs yq st tto t).2.1 (zbo bs yq st tto t).2.2.1 x
theorem zeU (bs:List UInt8) (yq:Bool) (g:Nat) (st:List Lv) (k:Int):valO bs yq (g+1) st k=if (zan bs k yq).2.2.2≠0 then some (PV.none,0,(zan bs k yq).2.2.2) else aftO bs yq g st (zan bs k yq).2.2.1 (zan bs k yq).1:=by
 unfold aftO contO;rw [valO]
 all_goals (try rfl)
def AnsD (bs:List UInt8) (yq:Bool) (st:List Lv) (R:PV×Int×Int) (P:PV×Int×Int->Prop):Prop :=
 (R.2.2=0->∀V,(∃g,contO bs yq g st R.2.1 R.1=some V)->P V)/\(R.2.2≠0->P (PV.none,0,R.2.2))
theorem zck {bs:List UInt8} {yq:Bool} {st:List Lv} {tto:Int} {t:Tk} {e:Int} (h:(zbo bs yq st tto t).2.2.2=e) (he:e≠0):∃g,aftO bs yq g st tto t=some (PV.none,0,e):=by
 refine ⟨0,?_⟩;unfold aftO;rw [yg (by rw [h];exact he),h]
theorem zfv {bs:List UInt8} {yq:Bool} {st st2:List Lv} {tto at2:Int} {t:Tk} (h:zbo bs yq st tto t=(none,st2,at2,0)) (g:Nat):aftO bs yq g st tto t=valO bs yq g st2 at2:=by
 unfold aftO;rw [h];simp only;rw [yh (by decide)]
theorem zfz {bs:List UInt8} {yq:Bool} {st st2:List Lv} {tto at2:Int} {t:Tk} {x:PV} (h:zbo bs yq st tto t=(some x,st2,at2,0)) (g:Nat):aftO bs yq g st tto t=contO bs yq g st2 at2 x:=by
 unfold aftO;rw [h];simp only;rw [yh (by decide)]
theorem sing_ans {bs:List UInt8} {yq:Bool} {st:List Lv} {tto:Int} {t:Tk} (hw:topW st=false) (hk:t.kind=1\/t.kind=6) :
  (st.length<64->AnsD bs yq st (zbC bs yq t tto) fun V=>∃g,aftO bs yq g st tto t=some V) /\
  (64<=st.length->∃g,aftO bs yq g st tto t=some (PV.none,0,if (zbC bs yq t tto).2.2≠0 then (zbC bs yq t tto).2.2 else 15)):=by
 obtain ⟨s1,s2⟩:=singD_is (bs:=bs) (yq:=yq) (tto:=tto) (t:=t) hw
 have Qa:zbo bs yq st tto t=(if (zbb bs yq st tto t).2.2≠0 then (none,st,(zbb bs yq st tto t).2.1,(zbb bs yq st tto t).2.2) else if 64<=st.length then (none,st,(zbb bs yq st tto t).2.1,15) else (some (zbb bs yq st tto t).1,st,(zbb bs yq st tto t).2.1,0)):=by
  unfold zbo;rw [yh (by omega),yh (by omega),yh (by omega)]
 by_cases he:(zbC bs yq t tto).2.2=0
 ·have h1:=s1 he
  rw [h1] at Qa;simp only at Qa;rw [yh (by decide)] at Qa;refine ⟨fun hl=>⟨fun _ V hV=>?_,fun h=>absurd he h⟩,fun hl=>?_⟩
  ·rw [yh (by omega)] at Qa
   obtain ⟨g,hg⟩:=hV;exact ⟨g,by rw [zfz Qa];exact hg⟩
  ·rw [yg hl] at Qa
   rw [yh (by simp [he])];exact zck (by rw [Qa]) (by decide)
 ·have h1:=s2 he
  rw [yg (by rw [h1];exact he)] at Qa;refine ⟨fun hl=>⟨fun h=>absurd h he,fun _=>?_⟩,fun hl=>?_⟩
  ·exact zck (by rw [Qa];exact h1) he
  ·rw [yg he]
   exact zck (by rw [Qa];exact h1) he
def ValAt (bs:List UInt8) (yq:Bool) (d:Nat):Prop:=∀(st:List Lv) (t:Tk) (tto:Int),st.length+d=64->topW st=false->(t.kind=3->∀v rest,st=v::rest->v.dict=true)->tkOk t->0<=tto->tto<=bs.length ->
 AnsD bs yq st (vlD bs yq d t tto) (fun V=>∃g,aftO bs yq g st tto t=some V)/\((vlD bs yq d t tto).2.2=0->t.kind≠0/\tto<=(vlD bs yq d t tto).2.1/\(vlD bs yq d t tto).2.1<=bs.length)
theorem arr_ans {bs:List UInt8} {yq:Bool} {d:Nat} (hf:ValAt bs yq d) (st:List Lv) (hd:st.length+1+d=64):∀(r:Nat) (l:List PV) (k:Int),0<=k->k<=bs.length->((bs.length:Int)-k).toNat<r ->
  AnsD bs yq st (arrD bs yq (vlD bs yq d) r l k) (fun V=>∃g,valO bs yq g ({ dict:=false,l:=l }::st) k=some V)/\((arrD bs yq (vlD bs yq d) r l k).2.2=0->k<=(arrD bs yq (vlD bs yq d) r l k).2.1/\(arrD bs yq (vlD bs yq d) r l k).2.1<=bs.length)
 | 0,_,_,_,_,h=>by omega
 | r+1,l,k,h,h2,hr=>by
  obtain ⟨g1,g2⟩:=zbr yq h h2;have Qo:=zfq yq h h2;have Qd:=zes (yq:=yq) h h2;have Qb:=zeU bs yq;simp only [arrD]
  by_cases he:(zan bs k yq).2.2.2≠0
  ·rw [yg he]
   exact ⟨⟨fun h=>absurd h he,fun _=>⟨1,by rw [Qb,yg he]⟩⟩,fun h=>absurd h he⟩
  ·rw [yh he]
   have Qg:(zan bs k yq).2.2.2=0:=by simpa using he
   have Qe:=Qd Qg;have Qf:∀V,(∃g,aftO bs yq g ({ dict:=false,l:=l }::st) (zan bs k yq).2.2.1 (zan bs k yq).1=some V)->∃g,valO bs yq g ({ dict:=false,l:=l }::st) k=some V:=fun V ⟨g,hg⟩=>⟨g+1,by rw [Qb,yh he];exact hg⟩;generalize (zan bs k yq).2.2.1=tto at *;generalize (zan bs k yq).1=t at *
   by_cases k3:t.kind=3
   ·rw [yg k3]
    have Qa:zbo bs yq ({ dict:=false,l:=l }::st) tto t=(some (.mk 6 0 [] l),st,tto,0):=by
     unfold zbo;rw [yh (by omega),yh (by omega),yg (.inl k3)];have hk:(t.kind==5)=false:=by rw [yf];omega
     rw [hk];simp [zc3]
    exact ⟨⟨fun _ V ⟨g,hg⟩=>Qf V ⟨g,by rw [zfz Qa];exact hg⟩,fun h=>absurd rfl h⟩,fun _=>⟨g1,g2⟩⟩
   ·rw [yh k3]
    obtain ⟨f1,f2⟩:=hf ({ dict:=false,l:=l }::st) t tto (by simpa using hd) rfl (fun h=>absurd h k3) Qo (by omega) g2
    by_cases hv:(vlD bs yq d t tto).2.2≠0
    ·rw [yg hv]
     exact ⟨⟨fun h=>absurd h hv,fun _=>Qf _ (f1.2 hv)⟩,fun h=>absurd h hv⟩
    ·rw [yh hv]
     have Qi:(vlD bs yq d t tto).2.2=0:=by simpa using hv
     obtain ⟨q1,q2,q3⟩:=f2 Qi;have Qc:=Qe q1;obtain ⟨r1,r2⟩:=arr_ans hf st hd r (l++[(vlD bs yq d t tto).1]) (vlD bs yq d t tto).2.1 (by omega) q3 (by omega);exact ⟨⟨fun h V hV=>Qf V (f1.1 Qi V (r1.1 h V hV)),fun h=>Qf _ (f1.1 Qi _ (r1.2 h))⟩,fun h=>⟨by have:=(r2 h).1;omega,(r2 h).2⟩⟩
theorem name_tk {t:Tk} (ht:tkOk t) (h1:t.kind=1) (h5:t.vk=5):tkV t=.mk 5 0 t.vs []:=by
 obtain ⟨o1,-,-⟩:=ht.2.2 h1
 have hn:t.vn=0:=by
  unfold tkV at o1;rw [h5] at o1;simp only [ownC] at o1;rw [yh (by decide),yh (by decide),yh (by decide),yh (by decide),yg (by trivial)] at o1
  split at o1
  ·cases o1
  ·split at o1
   ·rename_i h;exact h.1
   ·cases o1
 unfold tkV;rw [h5,hn]
theorem step_name {bs:List UInt8} {yq:Bool} {st:List Lv} {tto:Int} {t:Tk} (ht:tkOk t) (h1:t.kind=1) (h5:t.vk=5):zbo bs yq st tto t=if 64<=st.length then (none,st,tto,15) else (some (.mk 5 0 t.vs []),st,tto,0):=by
 have hs:zbb bs yq st tto t=(tkV t,tto,0):=by
  unfold zbb;rw [yh (by rintro ⟨-,h|h⟩;exact h h1;exact h h5),yh (by omega),yh (by unfold zaN;rw [h5];simp)]
 unfold zbo;rw [yh (by omega),yh (by omega),yh (by omega),hs,name_tk ht h1 h5];simp only;rw [yh (by decide)]
theorem dict_ans {bs:List UInt8} {yq:Bool} {d:Nat} (hf:ValAt bs yq d) (st:List Lv) (hd:st.length+1+d=64):∀(r:Nat) (l:List PV) (k:Int),l.length % 2=0->0<=k->k<=bs.length->((bs.length:Int)-k).toNat<r ->
  AnsD bs yq st (zdm bs yq (vlD bs yq d) d r (docS (twoV l) [] false).1 (docS (twoV l) [] false).2 k) (fun V=>∃g,valO bs yq g ({ dict:=true,l:=l }::st) k=some V)/\((zdm bs yq (vlD bs yq d) d r (docS (twoV l) [] false).1 (docS (twoV l) [] false).2 k).2.2=0->k<=(zdm bs yq (vlD bs yq d) d r (docS (twoV l) [] false).1 (docS (twoV l) [] false).2 k).2.1/\(zdm bs yq (vlD bs yq d) d r (docS (twoV l) [] false).1 (docS (twoV l) [] false).2 k).2.1<=bs.length)
 | 0,_,_,_,_,_,h=>by omega
 | r+1,l,k,hl,h,h2,hr=>by
  obtain ⟨g1,g2⟩:=zbr yq h h2;have Qo:=zfq yq h h2;have Qd:=zes (yq:=yq) h h2;have Qb:=zeU bs yq;have Qt:=pairs_doc l;have QD:=docS_snoc (twoV l);have QE:=two_snoc l;simp only [zdm];generalize hps:docS (twoV l) [] false=D at *;obtain ⟨ps,tw⟩:=D;simp only at Qt |-
  by_cases he:(zan bs k yq).2.2.2≠0
  ·rw [yg he]
   exact ⟨⟨fun h=>absurd h he,fun _=>⟨1,by rw [Qb,yg he]⟩⟩,fun h=>absurd h he⟩
  ·rw [yh he]
   have Qg:(zan bs k yq).2.2.2=0:=by simpa using he
   have Qe:=Qd Qg;have Qf:∀V,(∃g,aftO bs yq g ({ dict:=true,l:=l }::st) (zan bs k yq).2.2.1 (zan bs k yq).1=some V)->∃g,valO bs yq g ({ dict:=true,l:=l }::st) k=some V:=fun V ⟨g,hg⟩=>⟨g+1,by rw [Qb,yh he];exact hg⟩;generalize (zan bs k yq).2.2.1=tto at *;generalize (zan bs k yq).1=t at *;have hw:topW ({ dict:=true,l:=l }::st)=true:=by simp [topW,zgQ,hl]
   by_cases k5:t.kind=5
   ·rw [yg k5]
    have Qa:zbo bs yq ({ dict:=true,l:=l }::st) tto t=if tw=true then (none,{ dict:=true,l:=l }::st,tto,16) else (some (.mk 7 0 [] (zaS ps)),st,tto,0):=by
     have Qx:zgQ { dict:=true,l:=l }=true:=hw;unfold zbo;rw [yh (by omega),yh (by omega),yg (.inr k5)];have hk:(t.kind==5)=true:=by rw [beq_iff_eq];exact k5
     rw [hk]
     cases tw with
     | true=>simp [zc3,Qx,Qt]
     | false=>simp [zc3,Qx,Qt]
    cases tw with
    | true =>
     rw [yg rfl] at Qa |-;exact ⟨⟨fun h=>(by cases h),fun _=>Qf _ (zck (by rw [Qa]) (by decide))⟩,fun h=>by cases h⟩
    | false =>
     rw [yh (by decide)] at Qa |-;exact ⟨⟨fun _ V ⟨g,hg⟩=>Qf V ⟨g,by rw [zfz Qa];exact hg⟩,fun h=>absurd rfl h⟩,fun _=>⟨g1,g2⟩⟩
   ·rw [yh k5]
    by_cases k0:t.kind=0
    ·rw [yg k0]
     exact ⟨⟨fun h=>(by cases h),fun _=>Qf _ (zck (by unfold zbo;rw [yg k0]) (by decide))⟩,fun h=>by cases h⟩
    ·rw [yh k0]
     by_cases kv:t.kind≠1\/t.vk≠5
     ·rw [yg kv]
      have Qa:(zbo bs yq ({ dict:=true,l:=l }::st) tto t).2.2.2=11:=by
       unfold zbo;rw [yh k0]
       by_cases k24:t.kind=2\/t.kind=4
       ·rw [yg k24]
        unfold zcE;rw [yg hw]
       ·rw [yh k24]
        by_cases k3:t.kind=3
        ·rw [yg (.inl k3)]
         have hk:(t.kind==5)=false:=by rw [yf];omega
         rw [hk];simp [zc3]
        ·rw [yh (by omega)]
         have hs:zbb bs yq ({ dict:=true,l:=l }::st) tto t=(PV.none,tto,11):=by
          unfold zbb;rw [yg ⟨hw,kv⟩]
         rw [hs];rfl
      exact ⟨⟨fun h=>(by cases h),fun _=>Qf _ (zck Qa (by decide))⟩,fun h=>by cases h⟩
     ·rw [yh kv]
      have k1:t.kind=1:=Decidable.byContradiction fun h=>kv (.inl h);have v5:t.vk=5:=Decidable.byContradiction fun h=>kv (.inr h);have Qa:=step_name (bs:=bs) (yq:=yq) (st:={ dict:=true,l:=l }::st) (tto:=tto) Qo k1 v5
      by_cases d0:d=0
      ·rw [yg d0]
       rw [yg (by simp only [List.length_cons];omega)] at Qa;exact ⟨⟨fun h=>(by cases h),fun _=>Qf _ (zck (by rw [Qa]) (by decide))⟩,fun h=>by cases h⟩
      ·rw [yh d0]
       rw [yh (by simp only [List.length_cons];omega)] at Qa;have Qc:=Qe k0;have Qp:∀V,(∃g,valO bs yq g ({ dict:=true,l:=l++[.mk 5 0 t.vs []] }::st) tto=some V)->∃g,valO bs yq g ({ dict:=true,l:=l }::st) k=some V:=fun V ⟨g,hg⟩=>Qf V ⟨g,by rw [zfz Qa];exact hg⟩;obtain ⟨u1,u2⟩:=zbr (bs:=bs) (k:=tto) yq (by omega) g2;have uok:=zfq (bs:=bs) (k:=tto) yq (by omega) g2
       by_cases ue:(zan bs tto yq).2.2.2≠0
       ·rw [yg ue]
        exact ⟨⟨fun h=>absurd h ue,fun _=>Qp _ ⟨1,by rw [Qb,yg ue]⟩⟩,fun h=>absurd h ue⟩
       ·rw [yh ue]
        have Qj:∀V,(∃g,aftO bs yq g ({ dict:=true,l:=l++[.mk 5 0 t.vs []] }::st) (zan bs tto yq).2.2.1 (zan bs tto yq).1=some V)->∃g,valO bs yq g ({ dict:=true,l:=l }::st) k=some V:=fun V ⟨g,hg⟩=>Qp V ⟨g+1,by rw [Qb,yh ue];exact hg⟩;generalize (zan bs tto yq).2.2.1=uto at *;generalize (zan bs tto yq).1=u at *;obtain ⟨f1,f2⟩:=hf ({ dict:=true,l:=l++[.mk 5 0 t.vs []] }::st) u uto (by simpa using hd) (by simp [topW,zgQ];omega) (fun _ v rest hv=>by cases hv;rfl) uok (by omega) u2
        by_cases hv:(vlD bs yq d u uto).2.2≠0
        ·rw [yg hv]
         exact ⟨⟨fun h=>absurd h hv,fun _=>Qj _ (f1.2 hv)⟩,fun h=>absurd h hv⟩
        ·rw [yh hv]
         have Qi:(vlD bs yq d u uto).2.2=0:=by simpa using hv
         obtain ⟨q1,q2,q3⟩:=f2 Qi;obtain ⟨r1,r2⟩:=dict_ans hf st hd r (l++[.mk 5 0 t.vs [],(vlD bs yq d u uto).1]) (vlD bs yq d u uto).2.1 (by simp;omega) (by omega) q3 (by omega);rw [QE _ _ hl,QD,hps] at r1 r2;have Qu:∀x:PV,(l++[.mk 5 0 t.vs []])++[x]=l++[.mk 5 0 t.vs [],x]:=fun x=>by simp
         have hc:∀V,(∃g,valO bs yq g ({ dict:=true,l:=l++[.mk 5 0 t.vs [],(vlD bs yq d u uto).1] }::st) (vlD bs yq d u uto).2.1=some V)->∃g,contO bs yq g ({ dict:=true,l:=l++[.mk 5 0 t.vs []] }::st) (vlD bs yq d u uto).2.1 (vlD bs yq d u uto).1=some V:=fun V ⟨g,hg⟩=>⟨g,by show valO bs yq g ({ dict:=true,l:=(l++[.mk 5 0 t.vs []])++[_] }::st) _=_;rw [Qu];exact hg⟩;exact ⟨⟨fun h V hV=>Qj V (f1.1 Qi V (hc V (r1.1 h V hV))),fun h=>Qj _ (f1.1 Qi _ (hc _ (r1.2 h)))⟩,fun h=>⟨Int.le_trans (show k<=(vlD bs yq d u uto).2.1 by omega) (r2 h).1,(r2 h).2⟩⟩
theorem refD_at {bs:List UInt8} {yq:Bool} {k n:Int} (h:0<=k) (h2:k<=bs.length) (hb:(refD bs yq k n).1=true):k<=(refD bs yq k n).2.1/\(refD bs yq k n).2.1<=bs.length:=by
 obtain ⟨g1,g2⟩:=zbr yq h h2;obtain ⟨r1,r2⟩:=zbr (bs:=bs) (k:=(zan bs k yq).2.2.1) yq (by omega) g2;unfold refD at hb |-;simp only at hb |-
 split at hb
 ·cases hb
 ·rename_i q1
  rw [yh q1]
  split at hb
  ·cases hb
  ·rename_i q2
   rw [yh q2]
   split at hb
   ·cases hb
   ·rename_i q3
    rw [yh q3]
    split at hb
    ·cases hb
    ·rename_i q4
     rw [yh q4]
     split at hb
     ·cases hb
     ·rename_i q5
      rw [yh q5];exact ⟨Int.le_trans g1 r1,r2⟩
theorem singD_at {bs:List UInt8} {yq:Bool} {k:Int} {t:Tk} (h:0<=k) (h2:k<=bs.length) (he:(zbC bs yq t k).2.2=0):k<=(zbC bs yq t k).2.1/\(zbC bs yq t k).2.1<=bs.length:=by
 unfold zbC at he |-
 split
 ·rename_i q
  rw [yg q] at he
  cases hw:zeN t.s with
  | none=>rw [hw] at he;cases he
  | some v=>exact ⟨Int.le_refl _,h2⟩
 ·rename_i q
  rw [yh q] at he
  split
  ·rename_i q2
   rw [yg q2] at he
   split
   ·rename_i q3;rw [yg q3] at he;exact absurd he q3
   ·split
    ·rename_i q4;exact refD_at h h2 q4
    ·exact ⟨Int.le_refl _,h2⟩
  ·exact ⟨Int.le_refl _,h2⟩
theorem close_err {bs:List UInt8} {yq:Bool} {st:List Lv} {t:Tk} {tto:Int} (hw:topW st=false) (hn3:t.kind=3->∀v rest,st=v::rest->v.dict=true) (k:t.kind=3\/t.kind=5):(zbo bs yq st tto t).2.2.2=11:=by
 have he:(zc3 st (t.kind==5)).2.2=11:=by
  cases st with
  | nil=>rfl
  | cons v rest =>
   unfold zc3;simp only;rw [yg];rcases k with k|k
   ·left
    have hk:(t.kind==5)=false:=by rw [yf];omega
    rw [hk,hn3 k v rest rfl]
    decide
   ·have hk:(t.kind==5)=true:=by rw [beq_iff_eq];exact k
    rw [hk];exact .inr ⟨rfl,hw⟩
 unfold zbo;rw [yh (by omega),yh (by omega),yg k];simp only;rw [yh (by rw [he];decide)];exact he
theorem val_ans {bs:List UInt8} {yq:Bool}:∀d,ValAt bs yq d
 | 0=>fun st t tto hd hw hn3 ht h h2=>by
  unfold vlD
  by_cases k0:t.kind=0
  ·rw [yg k0]
   exact ⟨⟨fun h=>(by cases h),fun _=>zck (by unfold zbo;rw [yg k0]) (by decide)⟩,fun h=>by cases h⟩
  ·rw [yh k0]
   by_cases k24:t.kind=2\/t.kind=4
   ·rw [yg k24]
    exact ⟨⟨fun h=>(by cases h),fun _=>zck (by unfold zbo zcE;rw [yh k0,yg k24,yh (by rw [hw];decide),yg (by omega)]) (by decide)⟩,fun h=>by cases h⟩
   ·rw [yh k24]
    by_cases k35:t.kind=3\/t.kind=5
    ·rw [yg k35]
     exact ⟨⟨fun h=>(by cases h),fun _=>zck (close_err hw hn3 k35) (by decide)⟩,fun h=>by cases h⟩
    ·rw [yh k35]
     have hk:t.kind=1\/t.kind=6:=by have:=ht.1;have:=ht.2.1;omega
     have hs:=(sing_ans (bs:=bs) (yq:=yq) (tto:=tto) hw hk).2 (by omega)
     by_cases he:(zbC bs yq t tto).2.2≠0
     ·rw [yg he] at hs |-
      exact ⟨⟨fun h=>absurd h he,fun _=>hs⟩,fun h=>absurd h he⟩
     ·rw [yh he] at hs |-
      exact ⟨⟨fun h=>(by cases h),fun _=>hs⟩,fun h=>by cases h⟩
 | d+1=>fun st t tto hd hw hn3 ht h h2=>by
  unfold vlD
  by_cases k0:t.kind=0
  ·rw [yg k0]
   exact ⟨⟨fun h=>(by cases h),fun _=>zck (by unfold zbo;rw [yg k0]) (by decide)⟩,fun h=>by cases h⟩
  ·rw [yh k0]
   have Qq:∀q:Bool,zcE st q=({ dict:=q,l:=[] }::st,0):=fun q=>by
    unfold zcE;rw [yh (by rw [hw];decide),yh (by omega)]
   by_cases k2:t.kind=2
   ·rw [yg k2]
    have Qa:zbo bs yq st tto t=(none,{ dict:=false,l:=[] }::st,tto,0):=by
     unfold zbo;have hk:(t.kind==4)=false:=by rw [yf];omega
     rw [yh k0,yg (.inl k2),hk,Qq]
    obtain ⟨r1,r2⟩:=arr_ans (val_ans (bs:=bs) (yq:=yq) d) st (by omega) (bs.length+1) [] tto h h2 (by omega);exact ⟨⟨fun h V hV=>by obtain ⟨g,hg⟩:=r1.1 h V hV;exact ⟨g,by rw [zfv Qa];exact hg⟩,fun h=>by obtain ⟨g,hg⟩:=r1.2 h;exact ⟨g,by rw [zfv Qa];exact hg⟩⟩,fun h=>⟨k0,r2 h⟩⟩
   ·rw [yh k2]
    by_cases k4:t.kind=4
    ·rw [yg k4]
     have Qa:zbo bs yq st tto t=(none,{ dict:=true,l:=[] }::st,tto,0):=by
      unfold zbo;have hk:(t.kind==4)=true:=by rw [beq_iff_eq];exact k4
      rw [yh k0,yg (.inr k4),hk,Qq]
     obtain ⟨r1,r2⟩:=dict_ans (val_ans (bs:=bs) (yq:=yq) d) st (by omega) (bs.length+1) [] tto rfl h h2 (by omega);exact ⟨⟨fun h V hV=>by obtain ⟨g,hg⟩:=r1.1 h V hV;exact ⟨g,by rw [zfv Qa];exact hg⟩,fun h=>by obtain ⟨g,hg⟩:=r1.2 h;exact ⟨g,by rw [zfv Qa];exact hg⟩⟩,fun h=>⟨k0,r2 h⟩⟩
    ·rw [yh k4]
     by_cases k35:t.kind=3\/t.kind=5
     ·rw [yg k35]
      exact ⟨⟨fun h=>(by cases h),fun _=>zck (close_err hw hn3 k35) (by decide)⟩,fun h=>by cases h⟩
     ·rw [yh k35]
      have hk:t.kind=1\/t.kind=6:=by have:=ht.1;have:=ht.2.1;omega
      exact ⟨(sing_ans (bs:=bs) (yq:=yq) (tto:=tto) hw hk).1 (by omega),fun he=>⟨k0,singD_at h h2 he⟩⟩
def ErrS (R:PV×Int×Int):Prop:=R.2.2≠0->R=(PV.none,0,R.2.2)
theorem zg7 (bs:List UInt8) (yq:Bool) (t:Tk) (tto:Int):ErrS (zbC bs yq t tto):=by
 unfold zbC ErrS
 split
 ·split
  ·exact fun _=>rfl
  ·exact fun h=>absurd rfl h
 ·split
  ·split
   ·exact fun _=>rfl
   ·split
    ·exact fun h=>absurd rfl h
    ·exact fun h=>absurd rfl h
  ·exact fun h=>absurd rfl h
theorem arr_shape (bs:List UInt8) (yq:Bool) (f:Tk->Int->PV×Int×Int):∀r l k,ErrS (arrD bs yq f r l k)
 | 0,_,_=>fun _=>rfl
 | r+1,l,k=>by
  unfold ErrS;simp only [arrD]
  split
  ·exact fun _=>rfl
  ·split
   ·exact fun h=>absurd rfl h
   ·split
    ·exact fun _=>rfl
    ·exact arr_shape bs yq f r _ _
theorem zhc (bs:List UInt8) (yq:Bool) (f:Tk->Int->PV×Int×Int) (d:Nat):∀r ps tw k,ErrS (zdm bs yq f d r ps tw k)
 | 0,_,_,_=>fun _=>rfl
 | r+1,ps,tw,k=>by
  unfold ErrS;simp only [zdm]
  split
  ·exact fun _=>rfl
  ·split
   ·split
    ·exact fun _=>rfl
    ·exact fun h=>absurd rfl h
   ·split
    ·exact fun _=>rfl
    ·split
     ·exact fun _=>rfl
     ·split
      ·exact fun _=>rfl
      ·split
       ·exact fun _=>rfl
       ·split
        ·exact fun _=>rfl
        ·exact zhc bs yq f d r _ _ _
theorem vl_shape (bs:List UInt8) (yq:Bool) (d:Nat) (t:Tk) (tto:Int):ErrS (vlD bs yq d t tto):=by
 cases d with
 | zero =>
  unfold ErrS vlD
  split
  ·exact fun _=>rfl
  ·split
   ·exact fun _=>rfl
   ·split
    ·exact fun _=>rfl
    ·split
     ·exact fun _=>rfl
     ·exact fun _=>rfl
 | succ d =>
  unfold vlD
  split
  ·exact fun _=>rfl
  ·split
   ·exact arr_shape _ _ _ _ _ _
   ·split
    ·exact zhc _ _ _ _ _ _ _ _
    ·split
     ·exact fun _=>rfl
     ·exact zg7 _ _ _ _
theorem wholeD_is {bs:List UInt8} {yq:Bool} {k:Int} (h:0<=k) (h2:k<=bs.length):∃g,valO bs yq g [] k=some (zch bs yq k):=by
 obtain ⟨g1,g2⟩:=zbr yq h h2;have Qo:=zfq yq h h2;unfold zch
 by_cases he:(zan bs k yq).2.2.2≠0
 ·rw [yg he]
  exact ⟨1,by rw [zeU,yg he]⟩
 ·rw [yh he]
  obtain ⟨⟨a1,a2⟩,-⟩:=val_ans (bs:=bs) (yq:=yq) 64 [] (zan bs k yq).1 (zan bs k yq).2.2.1 rfl rfl (fun _ v rest hv=>by cases hv) Qo (by omega) g2
  by_cases hv:(vlD bs yq 64 (zan bs k yq).1 (zan bs k yq).2.2.1).2.2=0
  ·obtain ⟨g,hg⟩:=a1 hv (vlD bs yq 64 (zan bs k yq).1 (zan bs k yq).2.2.1) ⟨0,by
    show some (_,_,(0:Int))=some _;rw [<-hv]⟩
   exact ⟨g+1,by rw [zeU,yh he];exact hg⟩
  ·obtain ⟨g,hg⟩:=a2 hv
   refine ⟨g+1,?_⟩;rw [zeU,yh he,hg];exact congrArg some (vl_shape bs yq 64 _ _ hv).symm
theorem zfG {bs:List UInt8} {yq:Bool}:∀(g:Nat) (st:List Lv) (k:Int) (V:PV×Int×Int),valO bs yq g st k=some V->valO bs yq (g+1) st k=some V
 | 0,_,_,_,h=>by cases h
 | g+1,st,k,V,h=>by
  rw [zeU] at h |-
  by_cases he:(zan bs k yq).2.2.2≠0
  ·rw [yg he] at h |-;exact h
  ·rw [yh he] at h |-
   unfold aftO at h |-
   by_cases hs:(zbo bs yq st (zan bs k yq).2.2.1 (zan bs k yq).1).2.2.2≠0
   ·rw [yg hs] at h |-;exact h
   ·rw [yh hs] at h |-
    generalize zbo bs yq st (zan bs k yq).2.2.1 (zan bs k yq).1=Z at *;obtain ⟨v,st2,at2,e2⟩:=Z
    cases v with
    | none=>exact zfG g st2 at2 V h
    | some x =>
     cases st2 with
     | nil=>exact h
     | cons top rest=>exact zfG g _ at2 V h
theorem zf8 {bs:List UInt8} {yq:Bool} {g:Nat} {st:List Lv} {k:Int} {V:PV×Int×Int} (h:valO bs yq g st k=some V):∀j,valO bs yq (g+j) st k=some V
 | 0=>h
 | j+1=>zfG _ _ _ _ (zf8 h j)
theorem valO_one {bs:List UInt8} {yq:Bool} {g g2:Nat} {st:List Lv} {k:Int} {V V2:PV×Int×Int} (h:valO bs yq g st k=some V) (h2:valO bs yq g2 st k=some V2):V=V2:=by
 have a1:=zf8 h g2;have a2:=zf8 h2 g;rw [Nat.add_comm] at a2;rw [a1] at a2;exact Option.some.inj a2
theorem parse_doc {bs:List UInt8} {yq:Bool} {k:Int} (h:0<=k) (h2:k<=bs.length):valO bs yq (bs.length+2) [] k=some (zch bs yq k):=by
 obtain ⟨V,hV⟩:=zgB bs yq (bs.length+2) [] k h h2 (by omega);obtain ⟨g,hg⟩:=wholeD_is (yq:=yq) h h2;rw [hV,valO_one hV hg]
structure Ent where
 at_:Int:=0
 gen:Int:=0
 used:Bool:=false
 deriving DecidableEq,Inhabited
structure Grp where
 first:Int
 es:List Ent
 deriving DecidableEq,Inhabited
structure Sec where
 gs:List Grp
 tr:PV
def Sec.none:Sec:=⟨[],PV.none⟩
theorem zdH (l:List UInt8):0<=(zaD l).1/\(zaD l).1<=2147483647:=by
 unfold zaD
 split
 ·exact ⟨by decide,by decide⟩
 ·split
  ·exact ⟨by decide,by decide⟩
  ·exact ⟨by show (0:Int)<=(valD l:Nat);omega,by show ((valD l:Nat):Int)<=2147483647;omega⟩
def zc6 (bs:List UInt8) (k:Nat):Nat:=k+((bs.drop k).takeWhile isSp).length
def entS (s:List UInt8):Option Ent :=
 if (zaD (s.take 10)).2≠0\/(zaD ((s.drop 11).take 5)).2≠0\/65535<(zaD ((s.drop 11).take 5)).1\/s.getD 10 0≠32\/s.getD 16 0≠32\/(s.getD 17 0≠110/\s.getD 17 0≠102) \/
  (s.getD 18 0≠32/\s.getD 18 0≠10/\s.getD 18 0≠13) then none
 else some { at_:=(zaD (s.take 10)).1,gen:=(zaD ((s.drop 11).take 5)).1,used:=s.getD 17 0==110 }
def entV (bs:List UInt8) (yq:Bool) (k:Nat):Ent×Nat×Int :=
 if bs.length<zc6 bs k+19 then ({},0,zbf yq)
 else match entS ((bs.drop (zc6 bs k)).take 19) with
  | none=>({},0,20)
  | some x=>(x,zc6 bs k+19,0)
def zcq (bs:List UInt8) (yq:Bool):Nat->Nat->List Ent->List Ent×Nat×Int
 | 0,k,l=>(l,k,0)
 | n+1,k,l=>if (entV bs yq k).2.2≠0 then ([],0,(entV bs yq k).2.2) else zcq bs yq n (entV bs yq k).2.1 (l++[(entV bs yq k).1])
def nxtV (bs:List UInt8) (yq:Bool) (k:Int):Tk×Int×Int×Int :=
 if (zan bs k yq).2.2.2=0/\(zan bs k yq).1.kind=0 then ((zan bs k yq).1,(zan bs k yq).2.1,(zan bs k yq).2.2.1,10) else zan bs k yq
def zdn (f n:Int):Bool:=decide (0<=f)&&decide (f<=4097)&&decide (0<=n)&&decide (n<=4097-f)
def zdU (t:Tk):Bool:=t.kind==6&&t.s==[116,114,97,105,108,101,114]
def zgE (t:Tk):Bool:=t.kind==6&&t.s==[120,114,101,102]
def zb7 (bs:List UInt8) (yq:Bool):Nat->List Grp->Int->List Grp×Int×Int
 | 0,_,_=>([],0,20)
 | g+1,gs,k =>
  let t:=nxtV bs yq k
  if t.2.2.2≠0 then ([],0,t.2.2.2)
  else if zdU t.1=true then (gs,t.2.2.1,0)
  else if zaN t.1=false then ([],0,20)
  else
   let u:=nxtV bs yq t.2.2.1
   if u.2.2.2≠0 then ([],0,u.2.2.2)
   else if zaN u.1=false\/gs.length=64\/zdn t.1.vn u.1.vn=false then ([],0,20)
   else
    let q:=zcq bs yq u.1.vn.toNat u.2.2.1.toNat []
    if q.2.2≠0 then ([],0,q.2.2) else zb7 bs yq g (gs++[⟨t.1.vn,q.1⟩]) (q.2.1:Int)
def oneX (p:Tk->Bool) (V:Tk×Int×Int×Int):Int×Int :=
 if V.2.2.2≠0 then (0,V.2.2.2) else if V.1.kind=0 then (0,10) else if p V.1=false then (0,11) else (V.2.2.1,0)
def secV (bs:List UInt8) (yq:Bool) (k:Int):Sec×Int×Int :=
 let o:=oneX zgE (zan bs k yq)
 if o.2≠0 then (Sec.none,0,o.2)
 else
  let g:=zb7 bs yq 65 [] o.1
  if g.2.2≠0 then (Sec.none,0,g.2.2)
  else
   let v:=zch bs yq g.2.1
   if v.2.2≠0 then (Sec.none,0,v.2.2) else if v.1.kind≠7 then (Sec.none,0,20) else (⟨g.1,v.1⟩,v.2.1,0)
def zfn:List Grp->Int->Option Ent
 | [],_=>none
 | g::gs,n=>if g.first<=n/\n-g.first<(g.es.length:Int) then some (g.es.getD (n-g.first).toNat {}) else zfn gs n
def findP (o:Option Ent):Ent×Bool:=match o with|none=>({},false)|some e=>(e,true)
def zbK (e:Ent):Bool:=decide (0<=e.at_)&&decide (e.at_<=2147483647)&&decide (0<=e.gen)&&decide (e.gen<=65535)
def entB (e:Ent):List UInt8:=padL e.at_.toNat 10++(32::(padL e.gen.toNat 5++[32,if e.used then 110 else 102,32]))
def entL (e:Ent):List UInt8:=entB e++[10]
theorem zbx {e:Ent}:zbK e=true↔0<=e.at_/\e.at_<=2147483647/\0<=e.gen/\e.gen<=65535:=by
 unfold zbK;simp only [Bool.and_eq_true,decide_eq_true_eq];omega
end Go.Proofs.YtcmoehknppjkiaaGreatDoor
