/-
  Our texts Base to ParS, in one.
-/
import Derived.WalkKit
import Derived.WalkSpells
import Derived.WalkLawsBesides
import Derived.Lib.Hide
import Derived.Test.YtkhcjoomijkfbaaGreatDoorRows
import Derived.ProofKit
import Derived.OpenShut
import Derived.Lib.SmallJoins
set_option maxRecDepth 8000
set_option maxHeartbeats 8000000
namespace Go.Proofs.YtkhcjoomijkfbaaGreatDoor
open Go.RowKit
def Row (w:World) (sz:Nat) (a:Option Addr) (n cap:Nat) (xs:List Value):Prop :=
 xs.length=n * sz∧n≤cap∧cap≤maxLen∧(a=none→cap=0) ∧
   (0<n→∃b off,a=some ⟨b,off,none⟩∧b<w.heap.size∧∀j u,xs[j]?=some u→w.cell? ⟨b,off+j,none⟩=some u)
theorem cell?_keep {w w':World} (hb:Below w.heap.size w w') {a:Addr} {v:Value} (h:w.cell? a=some v):w'.cell? a=some v :=
 (hb.cell (World.block_lt_of_cell? w a h)).trans h
theorem Row.mono {w w':World} {sz:Nat} {a:Option Addr} {n cap:Nat} {xs:List Value} (h:Row w sz a n cap xs) (hb:Below w.heap.size w w'):Row w' sz a n cap xs:=by
 obtain ⟨h1,h2,h3,h4,h5⟩:=h
 refine ⟨h1,h2,h3,h4,fun hn=>?_⟩
 obtain ⟨b,off,ha,hlt,hc⟩:=h5 hn
 exact ⟨b,off,ha,Nat.lt_of_lt_of_le hlt hb.size,fun j u hj=>cell?_keep hb (hc j u hj)⟩
theorem Row.i64 {w:World} {sz:Nat} {a:Option Addr} {n cap:Nat} {xs:List Value} (h:Row w sz a n cap xs):(n:Int)≤9223372036854775807:=by
 have:=h.2.1;have:=h.2.2.1;unfold maxLen at this;omega
theorem Row.i64c {w:World} {sz:Nat} {a:Option Addr} {n cap:Nat} {xs:List Value} (h:Row w sz a n cap xs):(cap:Int)≤9223372036854775807:=by
 have:=h.2.2.1;unfold maxLen at this;omega
theorem Row.at {α:Type} {enc:α→Value} (d:α) {w:World} {a:Option Addr} {n cap:Nat} {l:List α} (h:Row w 1 a n cap (l.map enc)) (k:Nat) (hk:k<n) :
   ∃b off,a=some ⟨b,off,none⟩∧b<w.heap.size∧∀k,k<n→w.cell? ⟨b,off+k,none⟩=some (enc (l.getD k d)):=by
 obtain ⟨h1,h2,h3,h4,h5⟩:=h
 obtain ⟨b,off,rfl,hb,hc⟩:=h5 (by omega)
 refine ⟨b,off,rfl,hb,fun k hk=>hc k _ ?_⟩
 simp at h1 ⊢
 have:k<l.length:=by omega
 simp [this]
theorem Row.len1 {α:Type} {enc:α→Value} {w:World} {a:Option Addr} {n cap:Nat} {l:List α} (h:Row w 1 a n cap (l.map enc)):l.length=n:=by
 have:=h.1;simpa using this
theorem Row.nil (w:World) (sz:Nat):Row w sz none 0 0 []:=⟨by simp,Nat.le_refl _,by simp [maxLen],fun _=>rfl,fun h=>by omega⟩
theorem Row.of_owns {w:World} {base e sz:Nat} {v:Value} {n:Nat} {xs:List Value} (h:w.ownsRow base e sz v n xs) :
   ∃a cap,v=.slice a n cap∧Row w sz a n cap xs∧∀x,a=some x→base≤x.block:=by
 obtain ⟨h1,h2⟩:=h
 rcases h2 with ⟨rfl,rfl⟩|⟨g,cap,cur,rfl,hb,hg,hn,hm,hs,ht⟩
 · have : xs = [] := List.eq_nil_of_length_eq_zero (by simpa using h1)
   subst this
   exact ⟨none,0,rfl,Row.nil w sz,fun x hx=>by cases hx⟩
 · refine ⟨some ⟨g, 0, none⟩, cap, rfl, ⟨h1, hn, hm, fun h => (by cases h), fun _ => ⟨g, 0, rfl, (Array.getElem?_eq_some_iff.1 hg).1, fun j u hj => ?_⟩⟩, fun x hx => by cases hx; exact hb⟩
   rw [Nat.zero_add,cell_of_row w g j cur e (0,0) hg]
   rw [←ht,List.getElem?_take] at hj
   split at hj
   · simpa using hj
   · cases hj
theorem Row.of_own {w:World} {base e sz:Nat} {a:Option Addr} {n m cap:Nat} {xs:List Value} (h:w.ownsRow base e sz (.slice a n cap) m xs):n=m∧Row w sz a n cap xs:=by
 obtain ⟨a',cap',hv,hr,_⟩:=Row.of_owns h
 simp only [Value.slice.injEq] at hv
 obtain ⟨rfl,rfl,rfl⟩:=hv
 exact ⟨rfl,hr⟩
theorem zbr {w w':World} {base e sz:Nat} {v:Value} {n:Nat} {xs:List Value} (h:w.ownsRow base e sz v n xs) (hb:Below w.heap.size w w'):w'.ownsRow base e sz v n xs:=by
 obtain ⟨h1,h2⟩:=h
 refine ⟨h1,?_⟩
 rcases h2 with h2|⟨g,cap,cur,hv,hg,hh,r⟩
 · exact .inl h2
 · exact .inr ⟨g,cap,cur,hv,hg,by rw [hb.block g (Array.getElem?_eq_some_iff.1 hh).1];exact hh,r⟩
theorem zbX {w:World} {base base' e sz:Nat} {v:Value} {n:Nat} {xs:List Value} (h:w.ownsRow base e sz v n xs) (hb:base'≤base):w.ownsRow base' e sz v n xs:=by
 obtain ⟨h1,h2⟩:=h
 refine ⟨h1,?_⟩
 rcases h2 with h2|⟨g,cap,cur,hv,hg,r⟩
 · exact .inl h2
 · exact .inr ⟨g,cap,cur,hv,by omega,r⟩
theorem zab {w w':World} (hb:Below w.heap.size w w') {b:Nat} {o:Obj} (h:w.heap[b]?=some o):w'.heap[b]?=some o:=by
 rw [hb.block b (Array.getElem?_eq_some_iff.1 h).1];exact h
structure ElemT (P:Program) (t e:TypeId) (z:Value) (size bytes:Nat):Prop where
 und:P.underlying t=some (.slice e)
 info:(P.info? e).map (fun i=>(i.zero,i.size,i.bytes))=some (some z,size,bytes)
 cells:z.cells.size=size
 pos:0<size
theorem zaG {k:IntKind} {a b:Int} (h:a=b):Ending.returned (.int k a)=.returned (.int k b):=by rw [h]
theorem zbm {a b:Bool} (h:a=b):Ending.returned (.bool a)=.returned (.bool b):=by rw [h]
theorem zac {w:World} {b:Nat} (o:Obj) (h:b=w.heap.size):(w.alloc o).heap[b]?=some o:=by subst h;exact heap_alloc_new w o
theorem zao {w:World} {b:Nat} (o:Obj) {o':Obj} (h:w.heap[b]?=some o'):(w.alloc o).heap[b]?=some o':=by
 rw [Below.heap_alloc w o b (Array.getElem?_eq_some_iff.1 h).1];exact h
theorem zas (w:World) (o:Obj):(w.alloc o).heap.size=w.heap.size+1:=by
 show (w.heap.push o).size=_
 simp
theorem zam (w:World) (o:Obj):Below w.heap.size w (w.alloc o):=(Below.refl _ _).alloc (Nat.le_refl _) o
theorem zcn (w:World) (o o2:Obj):Below w.heap.size w ((w.alloc o).alloc o2):=(zam w o).alloc (by rw [zas];omega) o2
theorem zfn (w:World) (o o2 o3:Obj):Below w.heap.size w (((w.alloc o).alloc o2).alloc o3):=(zcn w o o2).alloc (by rw [zas,zas];omega) o3
theorem zay {P:Program} {w:World} {ops:Array Oper} {rest:List Oper} {o:Oper} {a:Act} {Q:Exit→Act→World→Prop} {t e:TypeId} {z:Value} {size bytes:Nat} (T:ElemT P t e z size bytes)
   (hgd:o.guard=none) (s x:Operand) (ho:o.op=.call { callee:=.builtin .append,args:=#[s,x],argTypes:=#[t,t] })
   (base:Nat) (v:Value) (n:Nat) (xs:List Value) (hs:a.eval s=v) (hown:w.ownsRow base e size v n xs)
   (ao:Option Addr) (m c:Nat) (news:List Value) (hx:a.eval x=.slice ao m c) (hr:Row w size ao m c news) (h1:∀u∈news,u.oneCell'=true)
   (h63:n+m≤maxLen) (hbytes:(n+m) * bytes≤140737488355328) (hbase:base≤w.heap.size)
   (h:∀v' w',w'.ownsRow base e size v' (n+m) (xs++news)→w.grownBy w' v.ownBlock→(v'=.slice none 0 0↔v=.slice none 0 0∧m=0)→wpList P ops Q rest (a.put o.dst v') w'):wpList P ops Q (o::rest) a w:=by
 obtain ⟨i,hi,hz,hs',hb⟩:=info_parts T.info
 subst hb
 obtain ⟨r1,r2,r3,r4,r5⟩:=hr
 cases ao with
 | some ad =>
   refine wpList_append_own w hgd s x t ho base e i z size i.bytes T.und hi hz hs' rfl T.cells T.pos v n xs hs hown ad m c news hx r1 (fun j u hj=>?_) h1 h63 hbytes hbase h
   by_cases hm:0<m
   · obtain ⟨b,off,hab,_,hc⟩:=r5 hm
     obtain rfl:=Option.some.inj hab
     rw [Addr.add_lit];exact hc j u hj
   · obtain rfl : m = 0 := by omega
     have:news=[]:=List.eq_nil_of_length_eq_zero (by simpa using r1)
     subst this;simp at hj
 | none =>
   obtain rfl:=r4 rfl
   obtain rfl:m=0:=by omega
   have:news=[]:=List.eq_nil_of_length_eq_zero (by simpa using r1)
   subst this
   refine wpList_plain hgd fun K hK=>?_
   have hrun:=run_append_owned_none (P:=P) w base t o.type e i size T.und hi v n xs hown
   unfold Oper.wp
   simp [execOp,ho,resolve,invoke,builtin,hs,hx,hrun,Result.andThen]
   exact hK _ _ (h v w (by simpa using hown) ⟨rfl,rfl,rfl,Nat.le_refl _,fun _ _ _=>rfl⟩ (by simp))
theorem zbo (w:World) (x:Value) (e:TypeId):Row (w.alloc (.cells #[x] e)) 1 (some ⟨w.heap.size,0,none⟩) 1 1 [x] :=
 ⟨rfl, Nat.le_refl _, by simp [maxLen], fun h => (by cases h), fun _ => ⟨w.heap.size, 0, rfl, by rw [zas]; omega, fun j u hj => by
   rw [cell_of_row _ _ _ _ _ _ (zac _ rfl)]
   rcases j with _|j
   · simpa using hj
   · simp at hj⟩⟩
theorem zbH {x:Value} (h:x.oneCell'=true):∀u∈[x],u.oneCell'=true:=by
 intro u hu;simp at hu;subst hu;exact h
theorem below_cell {B:Nat} {w w':World} (h:Below B w w') {b o:Nat} {v:Value} (hb:b<B) (hc:w.cell? ⟨b,o,none⟩=some v):w'.cell? ⟨b,o,none⟩=some v:=(h.cell (p:=⟨b,o,none⟩) hb).trans hc
theorem Row.below {B:Nat} {w w':World} {sz:Nat} {a:Option Addr} {n cap:Nat} {xs:List Value} (h:Row w sz a n cap xs) (hb:Below B w w') (ha:∀x,a=some x→x.block<B):Row w' sz a n cap xs:=by
 obtain ⟨h1,h2,h3,h4,h5⟩:=h
 refine ⟨h1,h2,h3,h4,fun hn=>?_⟩
 obtain ⟨b,off,ha',hlt,hc⟩:=h5 hn
 exact ⟨b,off,ha',Nat.lt_of_lt_of_le hlt hb.size,fun j u hj=>below_cell hb (ha _ ha') (hc j u hj)⟩
theorem Row.lt {w:World} {sz:Nat} {a:Option Addr} {n cap:Nat} {xs:List Value} (h:Row w sz a n cap xs) (hn:0<n):∀x,a=some x→x.block<w.heap.size:=by
 obtain ⟨b,off,ha,hlt,_⟩:=h.2.2.2.2 hn
 intro x hx
 rw [ha] at hx;cases hx;exact hlt
theorem row_arg {k:IntKind} {w:World} {a:Option Addr} {len cap:Nat} {zs:List Int}
   (h:(a=none∧len=0∧cap=0∧zs=[])∨∃x,a=some x∧len≤cap∧cap≤maxLen∧zs.length=cap∧(∀i,i<zs.length→w.cell? (x.add i)=some (.int k (zs.getD i 0)))∧∀n∈zs,(Lit.int k n).wf=true) :
   Row w 1 a len cap ((zs.take len).map (Value.int k))∧(∀n∈zs.take len,(Lit.int k n).wf=true)∧(zs.take len).length=len:=by
 rcases h with ⟨rfl,rfl,rfl,rfl⟩|⟨x,rfl,hl,hm,hz,hc,hw⟩
 · exact ⟨Row.nil w 1,by simp,by simp⟩
 · refine ⟨⟨by simp; omega, hl, hm, fun h => (by cases h), fun hn => ?_⟩, fun n hn => hw n (List.mem_of_mem_take hn), by simp; omega⟩
   have h0:=hc 0 (by omega)
   have hb:=World.block_lt_of_cell? w _ h0
   obtain ⟨b,off,spot⟩:=x
   have hspot:spot=none:=by simpa [Addr.add] using World.cell?_spot h0
   subst hspot
   refine ⟨b,off,rfl,by simpa [Addr.add] using hb,fun j u hj=>?_⟩
   have hj2:j<len:=by
     have:=(List.getElem?_eq_some_iff.1 hj).1
     simp at this;omega
   have h1:=hc j (by omega)
   rw [Addr.add_lit] at h1
   rw [h1,←hj]
   simp [hj2,List.getD,show j<zs.length by omega]
theorem zag {B:Nat} {a w:World} (h:Below B a w) (n:Nat):Below B a (w.drewN n):=⟨h.os,h.tape,h.output,h.size,h.block⟩
theorem zbT {n:Int} (h:(Lit.int .i64 n).wf=true):-9223372036854775808≤n∧n≤9223372036854775807:=by
 simp [Lit.wf,IntKind.min,IntKind.max,IntKind.signed,IntKind.bits] at h;omega
theorem row_bytes {w:World} {a:Option Addr} {len cap:Nat} {zs:List Int}
   (h:(a=none∧len=0∧cap=0∧zs=[])∨∃x,a=some x∧len≤cap∧cap≤maxLen∧zs.length=cap∧(∀i,i<zs.length→w.cell? (x.add i)=some (.int .u8 (zs.getD i 0)))∧∀n∈zs,(Lit.int .u8 n).wf=true) :
   ∃bs:List UInt8,bs.length=len∧Row w 1 a bs.length cap (bs.map fun b=>Value.int .u8 b.toNat):=by
 obtain ⟨hr,hw,hl⟩:=row_arg h
 refine ⟨(zs.take len).map fun n=>UInt8.ofNat n.toNat,by simpa using hl,?_⟩
 have e : ((zs.take len).map fun n => UInt8.ofNat n.toNat).map (fun b => Value.int .u8 b.toNat) = (zs.take len).map (Value.int .u8) := by
   rw [List.map_map]
   refine List.map_congr_left fun n hn=>?_
   have:=hw n hn
   simp [Lit.wf,IntKind.min,IntKind.max,IntKind.signed,IntKind.bits] at this
   simp
   omega
 rw [e,List.length_map,hl]
 exact hr
end Go.Proofs.YtkhcjoomijkfbaaGreatDoor
namespace Go.Proofs.YtkhcjoomijkfbaaGreatDoor
def layF:Array Value:=(Go.Pinned.utf8FirstZ.map fun (n:Nat)=>Value.int .u8 n).toArray
def layA:Array Value:=([128,191,160,191,128,159,144,191,128,143,0,0,0,0,0,0,0,0,0,0,0,0,0,0,0,0,0,0,0,0,0,0].map fun (n:Nat)=>Value.int .u8 n).toArray
def layS1 (w:World) (g:Nat) (cs:Array Value):World:={ w with heap:=w.heap.modify g fun
     | .cells _ t frozen=>.cells cs t frozen
     | o=>o }
def layS2 (w:World):World:=layS1 (layS1 w 1 layF) 2 layA
theorem snoc_ind {α:Type} {p:List α→Prop} (h0:p []) (h1:∀l c,p l→p (l++[c])) (l:List α):p l:=by
 have h:∀r:List α,p r.reverse:=by
   intro r
   induction r with
   | nil=>exact h0
   | cons c r ih=>rw [List.reverse_cons];exact h1 _ _ ih
 have h2:=h l.reverse
 rwa [List.reverse_reverse] at h2
def isDg (c:UInt8):Bool:=decide (48≤c.toNat)&&decide (c.toNat≤57)
def dgV (c:UInt8):Nat:=c.toNat-48
def decV:List UInt8→Nat→Nat
 | [],n=>n
 | c::l,n=>decV l (10 * n+dgV c)
def valD (l:List UInt8):Nat:=decV l 0
theorem zbc {c:UInt8}:isDg c=true↔48≤c.toNat∧c.toNat≤57:=by unfold isDg;simp
theorem zbO {c:UInt8}:isDg c=false↔c.toNat<48∨57<c.toNat:=by
 rw [←Bool.not_eq_true,zbc];omega
theorem dgV_le {c:UInt8} (h:isDg c=true):dgV c≤9:=by rw [zbc] at h;unfold dgV;omega
theorem zdh {c:UInt8} (h:isDg c=true):(dgV c:Int)=(c.toNat:Int)-48:=by rw [zbc] at h;unfold dgV;omega
theorem zdl:∀(l m:List UInt8) (n:Nat),decV (l++m) n=decV m (decV l n)
 | [],_,_=>rfl
 | c::l,m,n=>zdl l m (10 * n+dgV c)
theorem valD_nil:valD []=0:=rfl
theorem zbU (l:List UInt8) (c:UInt8):valD (l++[c])=10 * valD l+dgV c:=by unfold valD;rw [zdl];rfl
theorem zcZ (l:List UInt8):∀j,valD (l++List.replicate j 48)=valD l * 10 ^ j
 | 0=>by simp
 | j + 1 => by
   rw [List.replicate_succ',←List.append_assoc,zbU,zcZ l j,Nat.pow_succ,show dgV 48=0 from rfl]
   rw [Nat.add_zero,Nat.mul_comm (10 ^ j) 10,←Nat.mul_assoc,←Nat.mul_assoc,Nat.mul_comm (valD l) 10]
theorem zc8 (l:List UInt8) (c:UInt8) (h:l.all isDg=true) (hc:isDg c=true):(l++[c]).all isDg=true:=by simp [hc];simpa using h
theorem valD_lt:∀(l:List UInt8),l.all isDg=true→valD l<10 ^ l.length:=by
 refine snoc_ind (fun _=>by decide) fun l c ih=>?_
 · intro h
   rw [List.all_append,Bool.and_eq_true] at h
   have h1:=ih h.1
   have h2:=dgV_le (c:=c) (by simpa using h.2)
   rw [zbU,List.length_append,List.length_singleton,Nat.pow_succ]
   omega
def zbZ (l:List UInt8):Int×Int:=if l=[]∨l.all isDg=false then (0,11) else if 2147483647<valD l then (0,5) else (((valD l:Nat):Int),0)
theorem digitsV_nil:zbZ []=(0,11):=by simp [zbZ]
theorem digitsV_form {l:List UInt8} (h:l.all isDg=false):zbZ l=(0,11):=by unfold zbZ;rw [if_pos (.inr h)]
theorem zem {l:List UInt8} (hn:l≠[]) (h:l.all isDg=true) (ho:2147483647<valD l):zbZ l=(0,5):=by
 unfold zbZ;rw [if_neg (by rw [h];simpa using hn),if_pos ho]
theorem zd7 {l:List UInt8} (hn:l≠[]) (h:l.all isDg=true) (ho:valD l≤2147483647):zbZ l=(((valD l:Nat):Int),0):=by
 unfold zbZ;rw [if_neg (by rw [h];simpa using hn),if_neg (by omega)]
def mil (r:List UInt8):Nat:=valD ((r++List.replicate 6 48).take 6)
theorem zeC {r:List UInt8} (h:r.length≤6):mil r=valD r * 10 ^ (6-r.length):=by
 unfold mil
 rw [List.take_append,List.take_of_length_le h,List.take_replicate,Nat.min_eq_left (by omega),zcZ]
theorem zgc {r:List UInt8} (h:6≤r.length):mil r=valD (r.take 6):=by
 unfold mil
 rw [List.take_append_of_le_length h]
theorem mil_snoc_lt (r:List UInt8) (c:UInt8) (h:r.length<6):mil (r++[c])=mil r+10 ^ (5-r.length) * dgV c:=by
 rw [zeC (by simp;omega),zeC (by omega),zbU,List.length_append,List.length_singleton]
 rw [show 6-r.length=(5-r.length)+1 from by omega,show 6-(r.length+1)=5-r.length from by omega,Nat.pow_succ,Nat.add_mul]
 rw [Nat.mul_comm (dgV c)]
 congr 1
 rw [Nat.mul_comm 10 (valD r),Nat.mul_assoc,Nat.mul_comm 10]
theorem mil_snoc_ge (r:List UInt8) (c:UInt8) (h:6≤r.length):mil (r++[c])=mil r:=by
 rw [zgc h,zgc (by simp;omega),List.take_append_of_le_length h]
theorem zfC (r:List UInt8) (h:r.all isDg=true):mil r<1000000:=by
 by_cases hl:r.length≤6
 · have:=valD_lt ((r++List.replicate 6 48).take 6) (by
     rw [List.all_eq_true]
     intro x hx
     have hx:=List.mem_of_mem_take hx
     rw [List.mem_append] at hx
     rcases hx with hx|hx
     · exact List.all_eq_true.1 h x hx
     · rw [List.mem_replicate] at hx;rw [hx.2];rfl)
   unfold mil
   have hlen:((r++List.replicate 6 48).take 6:List UInt8).length=6:=by simp
   rw [hlen] at this
   omega
 · rw [zgc (by omega)]
   have:=valD_lt (r.take 6) (by rw [List.all_eq_true];intro x hx;exact List.all_eq_true.1 h x (List.mem_of_mem_take hx))
   rw [List.length_take,Nat.min_eq_left (by omega)] at this
   omega
def zcz (s:List UInt8):Int:=if s.head?=some 45 then -1 else 1
def zcF (s:List UInt8):List UInt8:=if s.head?=some 45∨s.head?=some 43 then s.tail else s
def zbl (b:List UInt8):List UInt8:=b.takeWhile (· != 46)
def zcx (b:List UInt8):List UInt8:=(b.dropWhile (· != 46)).tail
def zdW (b:List UInt8):Bool:=b.any (·==46)
def za8 (sg:Int) (b:List UInt8):Int×Int×Int :=
 if (zbl b).length+(zcx b).length=0∨(zbl b).all isDg=false∨(zcx b).all isDg=false then (0,0,11)
 else if 2147483647<valD (zbl b) then (0,0,5)
 else if zdW b=false then (2,sg * (valD (zbl b):Nat),0)
 else if 2147483647000000<valD (zbl b) * 1000000+mil (zcx b) then (0,0,5)
 else (3,sg * ((valD (zbl b) * 1000000+mil (zcx b):Nat):Int),0)
def zaH (s:List UInt8):Int×Int×Int:=za8 (zcz s) (zcF s)
theorem tw_app (w t:List UInt8) (hw:∀x∈w,x≠46):zbl (w++46::t)=w∧zcx (w++46::t)=t∧zdW (w++46::t)=true:=by
 induction w with
 | nil=>simp [zbl,zcx,zdW]
 | cons x w ih =>
   have hx:x≠46:=hw x (List.mem_cons_self)
   obtain ⟨h1,h2,h3⟩:=ih fun y hy=>hw y (List.mem_cons_of_mem _ hy)
   refine ⟨?_,?_,by simp [zdW]⟩
   · unfold zbl at *
     rw [List.cons_append,List.takeWhile_cons_of_pos (by simpa using hx),h1]
   · unfold zcx at *
     rw [List.cons_append,List.dropWhile_cons_of_pos (by simpa using hx),h2]
theorem tw_none (b:List UInt8) (hb:∀x∈b,x≠46):zbl b=b∧zcx b=[]∧zdW b=false:=by
 induction b with
 | nil=>simp [zbl,zcx,zdW]
 | cons x w ih =>
   have hx:x≠46:=hb x (List.mem_cons_self)
   obtain ⟨h1,h2,h3⟩:=ih fun y hy=>hb y (List.mem_cons_of_mem _ hy)
   refine ⟨?_,?_,?_⟩
   · unfold zbl at *
     rw [List.takeWhile_cons_of_pos (by simpa using hx),h1]
   · unfold zcx at *
     rw [List.dropWhile_cons_of_pos (by simpa using hx),h2]
   · unfold zdW at *
     rw [List.any_cons,h3];simpa using hx
theorem dg_ne {x:UInt8} (h:isDg x=true):x≠46:=by rintro rfl;revert h;decide
theorem all_ne {w:List UInt8} (h:w.all isDg=true):∀x∈w,x≠46:=fun x hx=>dg_ne (List.all_eq_true.1 h x hx)
theorem tw_mem (w t:List UInt8) (c:UInt8) (hw:∀x∈w,x≠46) (hc:c≠46):c∈zbl (w++c::t):=by
 induction w with
 | nil=>unfold zbl;rw [List.nil_append,List.takeWhile_cons_of_pos (by simpa using hc)];exact List.mem_cons_self
 | cons x w ih =>
   have hx:x≠46:=hw x (List.mem_cons_self)
   unfold zbl at *
   rw [List.cons_append,List.takeWhile_cons_of_pos (by simpa using hx)]
   exact List.mem_cons_of_mem _ (ih fun y hy=>hw y (List.mem_cons_of_mem _ hy))
theorem zdH {l:List UInt8} {c:UInt8} (h:c∈l) (hc:isDg c=false):l.all isDg=false:=by
 rw [←Bool.not_eq_true,List.all_eq_true];intro h2;rw [h2 c h] at hc;exact absurd hc (by decide)
theorem zbL (sg:Int) (w t:List UInt8) (c:UInt8) (hw:w.all isDg=true) (hc:c≠46) (hd:isDg c=false):za8 sg (w++c::t)=(0,0,11):=by
 unfold za8
 rw [if_pos (.inr (.inl (zdH (tw_mem w t c (all_ne hw) hc) hd)))]
theorem parseB_bad2 (sg:Int) (w r t:List UInt8) (c:UInt8) (hw:w.all isDg=true) (hd:isDg c=false):za8 sg (w++46::(r++c::t))=(0,0,11):=by
 obtain ⟨h1,h2,h3⟩:=tw_app w (r++c::t) (all_ne hw)
 unfold za8
 rw [h2,if_pos (.inr (.inr (zdH (c:=c) (by simp) hd)))]
theorem zfz (sg:Int) (b:List UInt8) (h:b.all isDg=true):za8 sg b=if b.length=0 then (0,0,11) else if 2147483647<valD b then (0,0,5) else (2,sg * (valD b:Nat),0):=by
 obtain ⟨h1,h2,h3⟩:=tw_none b (all_ne h)
 unfold za8
 rw [h1,h2,h3]
 by_cases hb:b.length=0
 · rw [if_pos (.inl (by simp [hb])),if_pos hb]
 · rw [if_neg (by rw [h];simp;intro e;exact hb (by simp [e])),if_neg hb];rfl
theorem parseB_real (sg:Int) (w r:List UInt8) (hw:w.all isDg=true) (hr:r.all isDg=true) :
   za8 sg (w++46::r)=if w.length+r.length=0 then (0,0,11) else if 2147483647<valD w∨(valD w=2147483647∧0<mil r) then (0,0,5) else (3,sg * ((valD w * 1000000+mil r:Nat):Int),0):=by
 obtain ⟨h1,h2,h3⟩:=tw_app w r (all_ne hw)
 have hm:=zfC r hr
 unfold za8
 rw [h1,h2,h3]
 by_cases hb:w.length+r.length=0
 · rw [if_pos (.inl hb),if_pos hb]
 · rw [if_neg (by rw [hw, hr]; simp; intro e1 e2; exact hb (by simp [e1, e2])), if_neg hb, if_neg (by decide : ¬ (true = false))]
   by_cases h4:2147483647<valD w
   · rw [if_pos h4,if_pos (.inl h4)]
   · rw [if_neg h4]
     by_cases h5:valD w=2147483647∧0<mil r
     · rw [if_pos (by omega),if_pos (.inr h5)]
     · rw [if_neg (by omega),if_neg (by omega)]
def decL (n:Nat):List UInt8:=if n<10 then [UInt8.ofNat (48+n)] else decL (n / 10)++[UInt8.ofNat (48+n % 10)]
termination_by n
theorem zb5 {n:Nat} (h:n<10):decL n=[UInt8.ofNat (48+n)]:=by rw [decL,if_pos h]
theorem zdO {n:Nat} (h:10≤n):decL n=decL (n / 10)++[UInt8.ofNat (48+n % 10)]:=by rw [decL,if_neg (by omega)]
theorem dig_isDg {d:Nat} (h:d<10):isDg (UInt8.ofNat (48+d))=true:=by
 rw [zbc,UInt8.toNat_ofNat'];omega
theorem dig_dgV {d:Nat} (h:d<10):dgV (UInt8.ofNat (48+d))=d:=by
 unfold dgV;rw [UInt8.toNat_ofNat'];omega
theorem zbS (n:Nat):(decL n).all isDg=true∧valD (decL n)=n∧1≤(decL n).length:=by
 induction n using Nat.strongRecOn with
 | ind n ih =>
   by_cases h:n<10
   · rw [zb5 h]
     refine ⟨by rw [List.all_cons,dig_isDg h];rfl,?_,by simp⟩
     show valD ([]++[_])=n
     rw [zbU,valD_nil,dig_dgV h];omega
   · obtain ⟨h1, h2, h3⟩ := ih (n / 10) (by omega)
     rw [zdO (by omega)]
     refine ⟨zc8 _ _ h1 (dig_isDg (by omega)),?_,by simp⟩
     rw [zbU,h2,dig_dgV (by omega)];omega
theorem za3:∀(k n:Nat),n<10 ^ (k+1)→(decL n).length≤k+1
 | 0,n,h=>by rw [zb5 (by simpa using h)];simp
 | k + 1, n, h => by
   by_cases h10:n<10
   · rw [zb5 h10];simp
   · rw [zdO (by omega), List.length_append, List.length_singleton]
     have:=za3 k (n / 10) (by rw [Nat.div_lt_iff_lt_mul (by omega)];rwa [Nat.pow_succ] at h)
     omega
theorem zeB:∀(k n:Nat),10 ^ k≤n→k+1≤(decL n).length
 | 0,n,_=>(zbS n).2.2
 | k + 1, n, h => by
   have hp:1≤10 ^ k:=Nat.pow_pos (by omega)
   rw [Nat.pow_succ] at h
   rw [zdO (by omega),List.length_append,List.length_singleton]
   have:=zeB k (n / 10) (by rw [Nat.le_div_iff_mul_le (by omega)];exact h)
   omega
def fixD (n:Nat):Nat→List UInt8
 | 0=>[]
 | k+1=>UInt8.ofNat (48+n / 10 ^ k % 10)::fixD n k
theorem fixD_len (n:Nat):∀k,(fixD n k).length=k
 | 0=>rfl
 | k+1=>by simp [fixD,fixD_len n k]
theorem zeX (n:Nat):∀k,fixD n (k+1)=fixD (n / 10) k++[UInt8.ofNat (48+n % 10)]
 | 0=>by simp [fixD]
 | k + 1 => by
   rw [fixD,zeX n k]
   show _=(UInt8.ofNat (48+n / 10 / 10 ^ k % 10)::fixD (n / 10) k)++_
   rw [Nat.div_div_eq_div_mul,Nat.pow_succ,Nat.mul_comm 10,List.cons_append]
theorem fixD_zero:∀k,fixD 0 k=List.replicate k 48
 | 0=>rfl
 | k+1=>by rw [fixD,fixD_zero k,List.replicate_succ,Nat.zero_div];rfl
def padL (n d:Nat):List UInt8:=List.replicate (d-(decL n).length) 48++decL n
theorem fixD_pad:∀(k n:Nat),n<10 ^ (k+1)→fixD n (k+1)=padL n (k+1)
 | 0, n, h => by
   have h10:n<10:=by simpa using h
   unfold padL
   rw [zb5 h10,zeX]
   simp [fixD,Nat.mod_eq_of_lt h10]
 | k + 1, n, h => by
   rw [zeX]
   by_cases h10:n<10
   · unfold padL
     rw [zb5 h10,show n / 10=0 from by omega,fixD_zero,Nat.mod_eq_of_lt h10];rfl
   · rw [fixD_pad k (n / 10) (by rw [Nat.div_lt_iff_lt_mul (by omega)]; rwa [Nat.pow_succ] at h)]
     unfold padL
     rw [zdO (n:=n) (by omega),List.length_append,List.length_singleton,show k+1+1-((decL (n / 10)).length+1)=k+1-(decL (n / 10)).length from by omega,List.append_assoc]
theorem zcw {n d:Nat} (h:d≤(decL n).length):padL n d=decL n:=by
 unfold padL;rw [show d-(decL n).length=0 from by omega];rfl
theorem fixD_end (n least k:Nat) (hl:1≤least) (hk:least≤k) (h0:n / 10 ^ k=0) (h1:least<k→n / 10 ^ (k-1)≠0):fixD n k=padL n least:=by
 have hn:n<10 ^ k:=by
   rcases Nat.lt_or_ge n (10 ^ k) with h|h
   · exact h
   · have := (Nat.le_div_iff_mul_le (Nat.pow_pos (by omega : 0 < 10))).2 (by rwa [Nat.one_mul] : 1 * 10 ^ k ≤ n)
     omega
 obtain ⟨j,rfl⟩:∃j,k=j+1:=⟨k-1,by omega⟩
 rw [fixD_pad j n hn]
 by_cases he:least=j+1
 · rw [he]
 · have h2:10 ^ j≤n:=by
     have:=h1 (by omega)
     rw [show j+1-1=j from rfl] at this
     rcases Nat.lt_or_ge n (10 ^ j) with h|h
     · exact absurd (Nat.div_eq_of_lt h) this
     · exact h
   have h3:=zeB j n h2
   rw [zcw h3,zcw (by omega)]
def padV (n digits:Int):List UInt8×Int :=
 if n<0∨digits<1∨20<digits∨digits<((decL n.toNat).length:Int) then ([],2) else (padL n.toNat digits.toNat,0)
def zbd (k n:Int) (bare:Bool):Int :=
 if bare=true∧((k=2∧-2147483647≤n∧n≤2147483647)∨(k=3∧-2147483647000000≤n∧n≤2147483647000000)) then 0 else 2
def zca (l:List UInt8):List UInt8:=(l.reverse.dropWhile (·==48)).reverse
def zbt (f:List UInt8):List UInt8:=f.take 1++zca (f.drop 1)
def absL (k:Int) (n:Nat):List UInt8:=if k=2 then decL n else decL (n / 1000000)++46::zbt (padL (n % 1000000) 6)
def zb2 (n:Int):List UInt8:=if n<0 then [45] else []
def zdd (k n:Int) (bare:Bool):List UInt8×Int:=if zbd k n bare=0 then (zb2 n++absL k n.natAbs,0) else ([],2)
theorem zef (l:List UInt8):zca (l++[48])=zca l:=by unfold zca;simp
theorem zdU (l:List UInt8) (c:UInt8) (h:c≠48):zca (l++[c])=l++[c]:=by
 unfold zca
 rw [List.reverse_append,List.reverse_singleton,List.singleton_append,List.dropWhile_cons_of_neg (by simpa using h)]
 simp
theorem trimR_zeros (l:List UInt8):∃j,l=zca l++List.replicate j 48:=by
 refine snoc_ind (p:=fun l=>∃j,l=zca l++List.replicate j 48) ⟨0,by simp [zca]⟩ (fun l c ih=>?_) l
 · by_cases h:c=48
   · subst h
     obtain ⟨j,hj⟩:=ih
     refine ⟨j+1,?_⟩
     rw [zef,List.replicate_succ',←List.append_assoc,←hj]
   · exact ⟨0,by rw [zdU l c h];simp⟩
theorem zdM {n d:Nat} (h:(decL n).length≤d):(padL n d).length=d:=by unfold padL;simp;omega
theorem padL_all (n d:Nat):(padL n d).all isDg=true:=by
 unfold padL
 rw [List.all_append,(zbS n).1,Bool.and_true,List.all_eq_true]
 intro x hx;rw [List.mem_replicate] at hx;rw [hx.2];rfl
theorem valD_zl (j:Nat) (l:List UInt8):valD (List.replicate j 48++l)=valD l:=by
 have:=zcZ [] j
 simp only [List.nil_append,valD_nil,Nat.zero_mul] at this
 unfold valD at *
 rw [zdl,this]
theorem zgq (n d:Nat):valD (padL n d)=n:=by unfold padL;rw [valD_zl,(zbS n).2.1]
theorem mil_trimF (m:Nat) (h:m<1000000):mil (zbt (padL m 6))=m∧(zbt (padL m 6)).all isDg=true∧1≤(zbt (padL m 6)).length∧(zbt (padL m 6)).length≤6:=by
 have hl:(padL m 6).length=6:=zdM (by have:=za3 5 m (by omega);omega)
 have ha:=padL_all m 6
 have hv:=zgq m 6
 generalize padL m 6=f at *
 obtain ⟨j,hj⟩:=trimR_zeros (f.drop 1)
 have hf:f=zbt f++List.replicate j 48:=by
   unfold zbt;rw [List.append_assoc,←hj,List.take_append_drop]
 have hlen:(zbt f).length+j=6:=by have:=congrArg List.length hf;simpa [hl] using this.symm
 have hal:(zbt f).all isDg=true:=by
   rw [hf,List.all_append,Bool.and_eq_true] at ha;exact ha.1
 refine ⟨?_,hal,?_,by omega⟩
 · rw [zeC (by omega),show 6-(zbt f).length=j from by omega,←zcZ,←hf,hv]
 · unfold zbt;rw [List.length_append,List.length_take];omega
theorem zeo {k n:Int} {b:Bool} (h:zbd k n b=0):b=true∧((k=2∧-2147483647≤n∧n≤2147483647)∨(k=3∧-2147483647000000≤n∧n≤2147483647000000)):=by
 unfold zbd at h
 split at h
 · assumption
 · omega
theorem head_dg {l t:List UInt8} (h:l.all isDg=true) (hl:1≤l.length):(l++t).head?≠some 45∧(l++t).head?≠some 43:=by
 cases l with
 | nil=>simp at hl
 | cons x l =>
   have hx:isDg x=true:=List.all_eq_true.1 h x List.mem_cons_self
   constructor<;>(intro e;simp at e;subst e;revert hx;decide)
theorem parseV_check (s:List UInt8) (h:(zaH s).2.2=0):zbd (zaH s).1 (zaH s).2.1 true=0:=by
 unfold zaH za8 at *
 have hsg:zcz s=1∨zcz s=-1:=by unfold zcz;split<;>simp
 generalize zcz s=sg at *
 generalize zbl (zcF s)=w at *
 generalize zcx (zcF s)=r at *
 generalize zdW (zcF s)=p at *
 split at h
 · simp at h
 · rename_i c1
   rw [if_neg c1]
   split at h
   · simp at h
   · rename_i c2
     rw [if_neg c2]
     split at h
     · rename_i c3
       rw [if_pos c3]
       unfold zbd
       rw [if_pos]
       refine ⟨rfl,.inl ⟨rfl,?_⟩⟩
       simp only
       rcases hsg with rfl|rfl<;>omega
     · rename_i c3
       rw [if_neg c3]
       split at h
       · simp at h
       · rename_i c4
         rw [if_neg c4]
         unfold zbd
         rw [if_pos]
         refine ⟨rfl,.inr ⟨rfl,?_⟩⟩
         simp only
         rcases hsg with rfl|rfl<;>omega
def isSp (c:UInt8):Bool:=c==0||c==9||c==10||c==12||c==13||c==32
def isDl (c:UInt8):Bool:=c==40||c==41||c==60||c==62||c==91||c==93||c==123||c==125||c==47||c==37
def isRg (c:UInt8):Bool:=!isSp c&&!isDl c
def isOc (c:UInt8):Bool:=decide (48≤c.toNat)&&decide (c.toNat≤55)
def hexD (c:UInt8):Int :=
 if 48≤c.toNat∧c.toNat≤57 then (c.toNat:Int)-48 else if 97≤c.toNat∧c.toNat≤102 then (c.toNat:Int)-87 else if 65≤c.toNat∧c.toNat≤70 then (c.toNat:Int)-55 else -1
theorem zfZ (c:UInt8):-1≤hexD c∧hexD c≤15:=by
 unfold hexD
 repeat' split
 all_goals omega
def za0:Bool→List UInt8→Nat
 | _,[]=>0
 | true,c::l=>1+za0 (c != 10&&c != 13) l
 | false,c::l=>if c=37 then 1+za0 true l else if isSp c=true then 1+za0 false l else 0
theorem zdP:∀(b:Bool) (l:List UInt8),za0 b l≤l.length
 | _,[]=>by simp [za0]
 | true,c::l=>by have:=zdP (c != 10&&c != 13) l;simp only [za0,List.length_cons];omega
 | false, c :: l => by
   have h1:=zdP true l
   have h2:=zdP false l
   simp only [za0,List.length_cons]
   split
   · omega
   · split<;>omega
def zaF (bs:List UInt8) (k:Int):Nat:=if k<0 then 0 else if (bs.length:Int)≤k then bs.length else k.toNat+za0 false (bs.drop k.toNat)
def zdI (last:Bool):List UInt8→Option Nat
 | []=>if last then some 0 else none
 | d::_=>some (if d=10 then 1 else 0)
def octV (last:Bool) (c:UInt8):List UInt8→Option (Nat×Nat)
 | []=>if last then some (c.toNat-48,1) else none
 | d :: t => if isOc d = true then
     (match t with
       | []=>if last then some (8 * (c.toNat-48)+(d.toNat-48),2) else none
       | e::_=>if isOc e=true then some (8 * (8 * (c.toNat-48)+(d.toNat-48))+(e.toNat-48),3) else some (8 * (c.toNat-48)+(d.toNat-48),2))
   else some (c.toNat-48,1)
def escV (last:Bool):List UInt8→Option (List UInt8×Nat)
 | []=>none
 | c::t =>
   if c=110 then some ([10],1) else if c=114 then some ([13],1) else if c=116 then some ([9],1) else if c=98 then some ([8],1) else if c=102 then some ([12],1)
   else if isOc c=true then (octV last c t).map fun x=>([UInt8.ofNat x.1],x.2)
   else if c=10 then some ([],1)
   else if c=13 then (zdI last t).map fun k=>([],k+1)
   else some ([c],1)
def zbb (last:Bool) (deep:Nat) (out:List UInt8) (l:List UInt8):Option (List UInt8×List UInt8) :=
 match l with
 | []=>none
 | c::t =>
   if c=92 then (match escV last t with|none=>none|some (x,k)=>zbb last deep (out++x) (t.drop k))
   else if c=13 then (match zdI last t with|none=>none|some k=>zbb last deep (out++[10]) (t.drop k))
   else if c=40 then zbb last (deep+1) (out++[c]) t
   else if c=41 then (if deep=1 then some (out,t) else zbb last (deep-1) (out++[c]) t)
   else zbb last deep (out++[c]) t
termination_by l.length
decreasing_by all_goals (simp only [List.length_cons,List.length_drop];omega)
def hexV (out:List UInt8) (half:Int):List UInt8→Int×List UInt8×List UInt8
 | []=>(1,[],[])
 | c::t =>
   if c=62 then (0,if 0≤half then out++[UInt8.ofNat (16 * half).toNat] else out,t)
   else if isSp c=true then hexV out half t
   else if hexD c<0 then (11,[],[])
   else if half<0 then hexV out (hexD c) t
   else hexV (out++[UInt8.ofNat (16 * half+hexD c).toNat]) (-1) t
def zbA (out:List UInt8):List UInt8→Option (List UInt8)
 | []=>some out
 | c :: t => if c = 35 then
     (match t with
       | x::y::u=>if hexD x<0∨hexD y<0 then none else zbA (out++[UInt8.ofNat (16 * hexD x+hexD y).toNat]) u
       | _=>none)
   else zbA (out++[c]) t
def zdc (w:List UInt8):Option (List UInt8):=match zbA [] w with|none=>none|some o=>if 127<o.length∨(0:UInt8)∈o then none else some o
structure Tk where
 kind:Int
 vk:Int:=0
 vn:Int:=0
 vs:List UInt8:=[]
 s:List UInt8:=[]
deriving DecidableEq
def za1 (last:Bool):Int:=if last then 10 else 6
def tokV (last:Bool) (c:UInt8) (t:List UInt8):Int×Tk×List UInt8 :=
 if isRg c=true then
   (let w:=(c::t).takeWhile isRg;let r:=(c::t).dropWhile isRg
    if r=[]∧last=false then (6,{ kind:=0 },[])
    else if isDg c=true∨c=43∨c=45∨c=46 then ((zaH w).2.2,{ kind:=1,vk:=(zaH w).1,vn:=(zaH w).2.1 },r)
    else (0,{ kind:=6,s:=w },r))
 else if c=91 then (0,{ kind:=2 },t)
 else if c=93 then (0,{ kind:=3 },t)
 else if c=60 then
   (match t with
     | []=>(za1 last,{ kind:=0 },[])
     | d :: u => if d = 60 then (0, { kind := 4 }, u) else
       (match hexV [] (-1) (d::u) with
         | (e,x,r)=>if e=0 then (0,{ kind:=1,vk:=4,vs:=x },r) else if e=1 then (za1 last,{ kind:=0 },[]) else (11,{ kind:=0 },[])))
 else if c=62 then
   (match t with
     | []=>(if last then 11 else 6,{ kind:=0 },[])
     | d::u=>if d=62 then (0,{ kind:=5 },u) else (11,{ kind:=0 },[]))
 else if c=40 then
   (match zbb last 1 [] t with
     | none=>(za1 last,{ kind:=0 },[])
     | some (x,r)=>(0,{ kind:=1,vk:=4,vs:=x },r))
 else if c=47 then
   (let w:=t.takeWhile isRg;let r:=t.dropWhile isRg
    if r=[]∧last=false then (6,{ kind:=0 },[])
    else match zdc w with
     | none=>(17,{ kind:=0 },[])
     | some o=>(0,{ kind:=1,vk:=5,vs:=o },r))
 else (11,{ kind:=0 },[])
def zai (bs:List UInt8) (k:Int) (last:Bool):Tk×Int×Int×Int :=
 if k<0∨(bs.length:Int)<k then ({ kind:=0 },0,0,2)
 else
   (let f:=zaF bs k
    match bs.drop f with
     | []=>({ kind:=0 },(f:Int),(f:Int),if last then 0 else 6)
     | c::t =>
       (match tokV last c t with
         | (e,x,r)=>if e=0 then (x,(f:Int),(bs.length:Int)-(r.length:Int),0) else ({ kind:=0 },(f:Int),(f:Int),e)))
theorem zcX:∀(b:Bool) (l:List UInt8),za0 false (l.drop (za0 b l))=0
 | _,[]=>by simp [za0]
 | true, c :: l => by
   simp only [za0]
   rw [Nat.add_comm,List.drop_succ_cons];exact zcX _ l
 | false, c :: l => by
   by_cases h:c=37
   · rw [za0,if_pos h,Nat.add_comm,List.drop_succ_cons];exact zcX _ l
   · by_cases h2:isSp c=true
     · rw [za0,if_neg h,if_pos h2,Nat.add_comm,List.drop_succ_cons];exact zcX _ l
     · rw [za0,if_neg h,if_neg h2,List.drop_zero,za0,if_neg h,if_neg h2]
theorem zew {bs:List UInt8} {k:Int} (h:0≤k) (h2:k≤bs.length):k≤(zaF bs k:Nat)∧zaF bs k≤bs.length:=by
 unfold zaF
 rw [if_neg (by omega)]
 split
 · omega
 · have:=zdP false (bs.drop k.toNat)
   rw [List.length_drop] at this;omega
theorem zfP {bs:List UInt8} {k:Int} (h:0≤k) (h2:k≤bs.length):zaF bs (zaF bs k:Nat)=zaF bs k:=by
 have hb:=zew h h2
 by_cases h3:(bs.length:Int)≤(zaF bs k:Nat)
 · have e : zaF bs k = bs.length := by omega
   rw [e];unfold zaF;rw [if_neg (by omega),if_pos (by omega)]
 · have e:zaF bs k=k.toNat+za0 false (bs.drop k.toNat):=by
     unfold zaF
     rw [if_neg (by omega),if_neg (by omega)]
   have e3:za0 false (bs.drop (zaF bs k))=0:=by
     rw [e,←List.drop_drop]
     exact zcX false _
   have gen : ∀ f : Nat, ¬ (bs.length : Int) ≤ (f : Int) → za0 false (bs.drop f) = 0 → zaF bs (f : Int) = f := fun f h1 h2 => by
     unfold zaF
     rw [if_neg (by omega),if_neg h1,Int.toNat_natCast,h2];rfl
   exact gen _ h3 e3
theorem zdx (u:List UInt8):∀(l:List UInt8) (out:List UInt8) (half:Int),((hexV out half l).1=0→hexV out half (l++u)=(0,(hexV out half l).2.1,(hexV out half l).2.2++u)∧(hexV out half l).2.2.length<l.length) ∧
   ((hexV out half l).1≠0→(hexV out half l).1≠1→(hexV out half l).1=11∧hexV out half (l++u)=(11,[],[]))
 | [],out,half=>by simp [hexV]
 | c :: t, out, half => by
   rw [List.cons_append]
   simp only [hexV,List.length_cons]
   by_cases h1:c=62
   · simp only [if_pos h1]
     exact ⟨fun _=>⟨by simp,by omega⟩,fun h=>absurd rfl h⟩
   simp only [if_neg h1]
   by_cases h2:isSp c=true
   · simp only [if_pos h2]
     obtain ⟨g1,g2⟩:=zdx u t out half
     exact ⟨fun h=>⟨(g1 h).1,by have:=(g1 h).2;omega⟩,g2⟩
   simp only [if_neg h2]
   by_cases h3:hexD c<0
   · simp only [if_pos h3]
     exact ⟨fun h=>by simp at h,fun _ _=>⟨by simp,by simp⟩⟩
   simp only [if_neg h3]
   by_cases h4:half<0
   · simp only [if_pos h4]
     obtain ⟨g1,g2⟩:=zdx u t out (hexD c)
     exact ⟨fun h=>⟨(g1 h).1,by have:=(g1 h).2;omega⟩,g2⟩
   simp only [if_neg h4]
   obtain ⟨g1,g2⟩:=zdx u t (out++[UInt8.ofNat (16 * half+hexD c).toNat]) (-1)
   exact ⟨fun h=>⟨(g1 h).1,by have:=(g1 h).2;omega⟩,g2⟩
theorem drop_len (p:UInt8→Bool) (l:List UInt8):(l.dropWhile p).length≤l.length:=List.Sublist.length_le (List.dropWhile_sublist _)
theorem textV_len (last:Bool):∀(n:Nat) (l:List UInt8),l.length≤n→∀(deep:Nat) (out x r:List UInt8),zbb last deep out l=some (x,r)→r.length<l.length:=by
 intro n
 induction n with
 | zero =>
   intro l hl deep out x r h
   obtain rfl:l=[]:=List.eq_nil_of_length_eq_zero (by omega)
   rw [zbb] at h;cases h
 | succ n ih =>
   intro l hl deep out x r h
   cases l with
   | nil=>rw [zbb] at h;cases h
   | cons c t =>
     simp only [List.length_cons] at hl ⊢
     rw [zbb.eq_def] at h
     simp only at h
     split at h
     · split at h
       · cases h
       · have := ih _ (by rw [List.length_drop]; omega) _ _ _ _ h
         rw [List.length_drop] at this;omega
     · split at h
       · split at h
         · cases h
         · have := ih _ (by rw [List.length_drop]; omega) _ _ _ _ h
           rw [List.length_drop] at this;omega
       · split at h
         · have := ih _ (by omega) _ _ _ _ h
           omega
         · split at h
           · split at h
             · cases h;omega
             · have := ih _ (by omega) _ _ _ _ h
               omega
           · have := ih _ (by omega) _ _ _ _ h
             omega
theorem tokV_some (last:Bool) (c:UInt8) (t:List UInt8) (h:(tokV last c t).1=0):(tokV last c t).2.1.kind≠0∧(tokV last c t).2.2.length≤t.length:=by
 obtain ⟨V,hV⟩:∃V,tokV last c t=V:=⟨_,rfl⟩
 rw [hV] at h ⊢
 unfold tokV at hV
 split at hV
 · next hr =>
   have hd:((c::t).dropWhile isRg).length≤t.length:=by rw [List.dropWhile_cons_of_pos hr];exact drop_len _ _
   simp only at hV
   split at hV
   · subst hV;simp at h
   · split at hV
     · subst hV;exact ⟨by simp,hd⟩
     · subst hV;exact ⟨by simp,hd⟩
 split at hV
 · subst hV;exact ⟨by simp,Nat.le_refl _⟩
 split at hV
 · subst hV;exact ⟨by simp,Nat.le_refl _⟩
 split at hV
 · cases t with
   | nil=>subst hV;cases last<;>simp [za1] at h
   | cons d t =>
     simp only at hV
     split at hV
     · subst hV;exact ⟨by simp,by simp⟩
     · have hx:=(zdx [] (d::t) [] (-1)).1
       split at hV
       · subst hV
         exact ⟨by simp,Nat.le_of_lt (hx ‹_›).2⟩
       · split at hV
         · subst hV;cases last<;>simp [za1] at h
         · subst hV;simp at h
 split at hV
 · cases t with
   | nil=>subst hV;cases last<;>simp at h
   | cons d t =>
     simp only at hV
     split at hV
     · subst hV;exact ⟨by simp,by simp⟩
     · subst hV;simp at h
 split at hV
 · cases he:zbb last 1 [] t with
   | none=>rw [he] at hV;subst hV;cases last<;>simp [za1] at h
   | some y =>
     obtain ⟨x,r⟩:=y
     rw [he] at hV
     subst hV
     exact ⟨by simp,by have:=textV_len last _ t (Nat.le_refl _) _ _ _ _ he;simp only;omega⟩
 split at hV
 · simp only at hV
   split at hV
   · subst hV;simp at h
   · split at hV
     · subst hV;simp at h
     · subst hV;exact ⟨by simp,drop_len _ _⟩
 · subst hV;simp at h
def zbf (bs:List UInt8) (f:Nat) (last:Bool):Tk×Int×Int×Int :=
 match bs.drop f with
 | []=>({ kind:=0 },(f:Int),(f:Int),if last then 0 else 6)
 | c::t=>if (tokV last c t).1=0 then ((tokV last c t).2.1,(f:Int),(bs.length:Int)-((tokV last c t).2.2.length:Int),0) else ({ kind:=0 },(f:Int),(f:Int),(tokV last c t).1)
theorem zc2 {bs:List UInt8} {k:Int} (last:Bool) (h:0≤k) (h2:k≤bs.length):zai bs k last=zbf bs (zaF bs k) last:=by
 have h3:¬(k<0∨(bs.length:Int)<k):=by omega
 unfold zai
 rw [if_neg h3]
 show (match bs.drop (zaF bs k) with | []=>_|c::t=>_)=_
 unfold zbf
 cases bs.drop (zaF bs k)<;>rfl
theorem zdv {bs:List UInt8} {f:Nat} (last:Bool) (h:bs.drop f=[]):zbf bs f last=({ kind:=0 },(f:Int),(f:Int),if last then 0 else 6):=by unfold zbf;rw [h]
theorem zcy {bs:List UInt8} {f:Nat} (last:Bool) {c:UInt8} {t:List UInt8} (h:bs.drop f=c::t):zbf bs f last=if (tokV last c t).1=0 then ((tokV last c t).2.1,(f:Int),(bs.length:Int)-((tokV last c t).2.2.length:Int),0) else ({ kind:=0 },(f:Int),(f:Int),(tokV last c t).1):=by unfold zbf;rw [h]
theorem nextV_places {bs:List UInt8} {k:Int} (last:Bool) (h:0≤k) (h2:k≤bs.length) :
   ((zai bs k last).2.2.2≠0→(zai bs k last).1={ kind:=0 }∧(zai bs k last).2.1=(zai bs k last).2.2.1∧k≤(zai bs k last).2.1∧(zai bs k last).2.1≤bs.length) ∧
   ((zai bs k last).2.2.2=0→(zai bs k last).1.kind=0→last=true∧(zai bs k last).2.1=bs.length∧(zai bs k last).2.2.1=bs.length) ∧
   ((zai bs k last).2.2.2=0→(zai bs k last).1.kind≠0→zai bs (zai bs k last).2.1 last=zai bs k last∧k≤(zai bs k last).2.1∧(zai bs k last).2.1<(zai bs k last).2.2.1∧(zai bs k last).2.2.1≤bs.length):=by
 obtain ⟨hb1,hb2⟩:=zew h h2
 have hi:=zfP h h2
 have hV:=zc2 (bs:=bs) last h h2
 have hV2:=zc2 (bs:=bs) (k:=(zaF bs k:Nat)) last (by omega) (by omega)
 rw [hi] at hV2
 generalize zaF bs k=f at *
 rw [hV]
 cases hd:bs.drop f with
 | nil =>
   have hn:=zdv last hd
   rw [hn] at hV2 ⊢
   have hfl:f=bs.length:=by have:=List.drop_eq_nil_iff.1 hd;omega
   refine ⟨fun _=>⟨rfl,rfl,hb1,by simp only;omega⟩,fun h0 _=>⟨?_,by simp only;omega,by simp only;omega⟩,fun _ h=>absurd rfl h⟩
   cases last
   · simp at h0
   · rfl
 | cons c t =>
   have hn:=zcy last hd
   have hlen:f+(t.length+1)=bs.length:=by
     have:=congrArg List.length hd
     rw [List.length_drop,List.length_cons] at this;omega
   by_cases h0:(tokV last c t).1=0
   · obtain ⟨g1,g2⟩:=tokV_some last c t h0
     rw [if_pos h0] at hn
     rw [hn] at hV2 ⊢
     generalize tokV last c t=T at *
     obtain ⟨e,x,r⟩:=T
     simp only at g1 g2 hV2 ⊢
     exact ⟨fun h=>absurd rfl h,fun _ h=>absurd h g1,fun _ _=>⟨hV2,hb1,by omega,by omega⟩⟩
   · rw [if_neg h0] at hn
     rw [hn]
     exact ⟨fun _=>⟨rfl,rfl,hb1,by simp only;omega⟩,fun h=>absurd h h0,fun h=>absurd h h0⟩
inductive PV where
 | mk (kind n:Int) (s:List UInt8) (l:List PV)
def PV.kind:PV→Int | .mk k _ _ _=>k
def PV.n:PV→Int | .mk _ n _ _=>n
def PV.s:PV→List UInt8 | .mk _ _ s _=>s
def PV.l:PV→List PV | .mk _ _ _ l=>l
def PV.none:PV:=.mk 0 0 [] []
instance:Inhabited PV:=⟨PV.none⟩
structure Lv where
 dict:Bool
 l:List PV
def zcQ (v:Lv):Bool:=v.dict&&v.l.length % 2==0
def topW:List Lv→Bool
 | []=>false
 | v::_=>zcQ v
def zaC (t:Tk):Bool:=t.kind==1&&t.vk==2
def moreV (e:Int):Int:=if e=6 then 6 else 0
def tkV (t:Tk):PV:=.mk t.vk t.vn t.vs []
def refV (bs:List UInt8) (last:Bool) (at_:Int) (v:PV):PV×Int×Int :=
 let g:=zai bs at_ last
 if g.2.2.2≠0∨zaC g.1=false then (v,at_,moreV g.2.2.2) else
 let r:=zai bs g.2.2.1 last
 if r.2.2.2≠0∨r.1.kind≠6∨r.1.s≠[82] then (v,at_,moreV r.2.2.2) else
 if v.n<1∨4096<v.n∨g.1.vn≠0 then (v,at_,26) else (.mk 8 v.n [] [],r.2.2.1,0)
def zdb (w:List UInt8):Option PV :=
 if w=[116,114,117,101] then some (.mk 1 1 [] []) else if w=[102,97,108,115,101] then some (.mk 1 0 [] []) else if w=[110,117,108,108] then some PV.none else none
def zaK (bs:List UInt8) (last:Bool) (st:List Lv) (at_:Int) (t:Tk):PV×Int×Int :=
 if topW st=true∧(t.kind≠1∨t.vk≠5) then (PV.none,at_,11)
 else if t.kind=6 then (match zdb t.s with|none=>(PV.none,at_,11)|some v=>(v,at_,0))
 else if zaC t=true then refV bs last at_ (tkV t)
 else (tkV t,at_,0)
def zcb (st:List Lv) (dict:Bool):List Lv×Int:=if topW st=true then (st,11) else if 64≤st.length then (st,15) else ({ dict:=dict,l:=[] }::st,0)
def twoV:List PV→List (PV×PV)
 | a::b::l=>(a,b)::twoV l
 | _=>[]
def zaQ:List (PV×PV)→List PV
 | []=>[]
 | (a,b)::l=>a::b::zaQ l
def sLt:List UInt8→List UInt8→Bool
 | [],[]=>false
 | [],_::_=>true
 | _::_,[]=>false
 | a::l,b::m=>if a.toNat<b.toNat then true else if b.toNat<a.toNat then false else sLt l m
def insV (x:PV×PV):List (PV×PV)→List (PV×PV)
 | []=>[x]
 | y::l=>if sLt y.1.s x.1.s then y::insV x l else x::y::l
def zdp:List (PV×PV)→List (PV×PV)
 | []=>[]
 | x::l=>insV x (zdp l)
def zb0:List (PV×PV)→Bool
 | x::y::l=>x.1.s==y.1.s||zb0 (y::l)
 | _=>false
def zcO (l:List PV):Option (List PV):=if zb0 (zdp (twoV l))=true then none else some (zaQ (zdp (twoV l)))
def zbG (st:List Lv) (dict:Bool):PV×List Lv×Int :=
 match st with
 | []=>(PV.none,st,11)
 | v::rest =>
   if v.dict≠dict∨(dict=true∧zcQ v=false) then (PV.none,st,11)
   else if dict=false then (.mk 6 0 [] v.l,rest,0)
   else match zcO v.l with
     | none=>(PV.none,st,16)
     | some l=>(.mk 7 0 [] l,rest,0)
def za5 (bs:List UInt8) (last:Bool) (st:List Lv) (at_:Int) (t:Tk):Option PV×List Lv×Int×Int :=
 if t.kind=0 then (none,st,at_,10)
 else if t.kind=2∨t.kind=4 then (none,(zcb st (t.kind==4)).1,at_,(zcb st (t.kind==4)).2)
 else if t.kind=3∨t.kind=5 then
   (let r:=zbG st (t.kind==5)
    if r.2.2=0 then (some r.1,r.2.1,at_,0) else (none,r.2.1,at_,r.2.2))
 else
   (let r:=zaK bs last st at_ t
    if r.2.2≠0 then (none,st,r.2.1,r.2.2) else if 64≤st.length then (none,st,r.2.1,15) else (some r.1,st,r.2.1,0))
def valO (bs:List UInt8) (last:Bool):Nat→List Lv→Int→Option (PV×Int×Int)
 | 0,_,_=>none
 | g+1,st,at_ =>
   let t:=zai bs at_ last
   if t.2.2.2≠0 then some (PV.none,0,t.2.2.2) else
   match za5 bs last st t.2.2.1 t.1 with
   | (v,st2,at2,e) =>
     if e≠0 then some (PV.none,0,e) else
     match v with
     | none=>valO bs last g st2 at2
     | some x => match st2 with
       | []=>some (x,at2,0)
       | top::rest=>valO bs last g ({ top with l:=top.l++[x] }::rest) at2
theorem zbe {bs:List UInt8} {k:Int} (last:Bool) (h:0≤k) (h2:k≤bs.length):k≤(zai bs k last).2.2.1∧(zai bs k last).2.2.1≤bs.length:=by
 rw [zc2 last h h2]
 have hs:=zew h h2
 cases hd:bs.drop (zaF bs k) with
 | nil=>rw [zdv last hd];exact ⟨hs.1,by have:=hs.2;show ((zaF bs k:Nat):Int)≤_;omega⟩
 | cons c t =>
   rw [zcy last hd]
   have hl:(bs.drop (zaF bs k)).length=t.length+1:=by rw [hd];rfl
   rw [List.length_drop] at hl
   split
   · rename_i h0
     have:=(tokV_some last c t h0).2
     exact ⟨by show k≤(bs.length:Int)-_;omega,by show (bs.length:Int)-_≤_;omega⟩
   · exact ⟨hs.1,by have:=hs.2;show ((zaF bs k:Nat):Int)≤_;omega⟩
mutual
def zcl:PV→Nat
 | .mk k _ _ l=>if k=6∨k=7 then 1+zfx l else 1
def zfx:List PV→Nat
 | []=>0
 | x::l=>max (zcl x) (zfx l)
end
def ascV:List (PV×PV)→Bool
 | x::y::l=>sLt x.1.s y.1.s&&ascV (y::l)
 | _=>true
def zdZ:List PV→Bool
 | []=>true
 | [a]=>a.kind==5
 | a::_::l=>a.kind==5&&zdZ l
def ownC:PV→Int
 | .mk k n s l =>
   if k=0 then (if n=0∧s=[]∧l=[] then 0 else 2)
   else if k=1 then (if (n=0∨n=1)∧s=[]∧l=[] then 0 else 2)
   else if k=2∨k=3 then (if s=[]∧l=[] then zbd k n true else 2)
   else if k=4 then (if n=0∧l=[] then 0 else 2)
   else if k=5 then (if 127<s.length∨(0:UInt8)∈s then 17 else if n=0∧l=[] then 0 else 2)
   else if k=6 then (if n=0∧s=[] then 0 else 2)
   else if k=7 then (if n≠0∨s≠[]∨l.length % 2≠0 then 2 else if zdZ l=false then 2 else if ascV (twoV l)=true then 0 else 16)
   else if k=8 then (if 1≤n∧n≤4096∧s=[]∧l=[] then 0 else 2)
   else 2
mutual
def zbQ:PV→Int
 | .mk k n s l=>if ownC (.mk k n s l)≠0 then ownC (.mk k n s l) else if k=6∨k=7 then firstL l else 0
def firstL:List PV→Int
 | []=>0
 | x::l=>if zbQ x≠0 then zbQ x else firstL l
end
theorem zfy {n:Nat}:∀l:List PV,(∀x∈l,zcl x≤n)→zfx l≤n
 | [],_=>by simp [zfx]
 | x :: l, h => by
   have h1:=h x (List.mem_cons_self)
   have h2:=zfy l fun y hy=>h y (List.mem_cons_of_mem _ hy)
   simp only [zfx];omega
theorem zd8:∀l:List PV,(∀x∈l,zbQ x=0)→firstL l=0
 | [],_=>rfl
 | x :: l, h => by
   simp only [firstL]
   rw [if_neg (by simp [h x (List.mem_cons_self)])]
   exact zd8 l fun y hy=>h y (List.mem_cons_of_mem _ hy)
theorem zcJ:∀a b:List UInt8,sLt a b=false→a≠b→sLt b a=true
 | [],[],_,h=>absurd rfl h
 | [],_::_,h,_=>by simp [sLt] at h
 | _::_,[],_,_=>by simp [sLt]
 | x :: a, y :: b, h, hn => by
   simp only [sLt] at h ⊢
   by_cases h1:x.toNat<y.toNat
   · rw [if_pos h1] at h;cases h
   · rw [if_neg h1] at h
     by_cases h2:y.toNat<x.toNat
     · rw [if_pos h2]
     · rw [if_neg h2] at h ⊢
       rw [if_neg h1]
       have hxy:x=y:=UInt8.toNat_inj.1 (by omega)
       subst hxy
       exact zcJ a b h fun e=>hn (by rw [e])
def zfp:List (PV×PV)→Prop
 | x::y::l=>sLt y.1.s x.1.s=false∧zfp (y::l)
 | _=>True
theorem sLt_as:∀a b:List UInt8,sLt a b=true→sLt b a=false
 | [],[],h=>by simp [sLt] at h
 | [],_::_,_=>by simp [sLt]
 | _::_,[],h=>by simp [sLt] at h
 | x :: a, y :: b, h => by
   simp only [sLt] at h ⊢
   by_cases h1:x.toNat<y.toNat
   · rw [if_neg (by omega),if_pos h1]
   · rw [if_neg h1] at h
     by_cases h2:y.toNat<x.toNat
     · rw [if_pos h2] at h;cases h
     · rw [if_neg h2] at h
       rw [if_neg h2,if_neg h1]
       exact sLt_as a b h
theorem ins_head (x:PV×PV):∀l,∃z t,insV x l=z::t∧(z=x∨∃t',l=z::t')
 | []=>⟨x,[],rfl,.inl rfl⟩
 | y :: l => by
   simp only [insV]
   split
   · exact ⟨y,_,rfl,.inr ⟨l,rfl⟩⟩
   · exact ⟨x,_,rfl,.inl rfl⟩
theorem zfT {x:PV×PV} {l:List (PV×PV)} (h:zfp l) (hh:∀z t,l=z::t→sLt z.1.s x.1.s=false):zfp (x::l):=by
 cases l with
 | nil=>trivial
 | cons y t=>exact ⟨hh y t rfl,h⟩
theorem notGt_tail {x:PV×PV} {l:List (PV×PV)} (h:zfp (x::l)):zfp l:=by
 cases l with
 | nil=>trivial
 | cons y t=>exact h.2
theorem ins_notGt (x:PV×PV):∀l,zfp l→zfp (insV x l)
 | [],_=>trivial
 | y :: l, h => by
   simp only [insV]
   split
   · rename_i hy
     refine zfT (ins_notGt x l (notGt_tail h)) fun z t hz=>?_
     obtain ⟨z',t',e1,e2⟩:=ins_head x l
     rw [e1] at hz
     have hzz:z'=z:=(List.cons.inj hz).1
     rcases e2 with e2|⟨t2,e2⟩
     · rw [←hzz,e2];exact sLt_as _ _ hy
     · rw [←hzz];subst e2;exact h.1
   · rename_i hy
     exact zfT h fun z t hz => by
       have:y=z:=(List.cons.inj hz).1
       rw [←this]
       simpa using hy
theorem zc4:∀l,zfp (zdp l)
 | []=>trivial
 | x::l=>ins_notGt x _ (zc4 l)
theorem asc_of:∀l,zfp l→zb0 l=false→ascV l=true
 | [],_,_=>rfl
 | [_],_,_=>rfl
 | x :: y :: l, h, ht => by
   simp only [zb0,Bool.or_eq_false_iff,beq_eq_false_iff_ne] at ht
   simp only [ascV,Bool.and_eq_true]
   exact ⟨zcJ _ _ h.1 (fun e=>ht.1 e.symm),asc_of (y::l) h.2 ht.2⟩
theorem ins_perm (x:PV×PV):∀l,(insV x l).Perm (x::l)
 | []=>List.Perm.refl _
 | y :: l => by
   simp only [insV]
   split
   · exact ((ins_perm x l).cons y).trans (List.Perm.swap x y l)
   · exact List.Perm.refl _
theorem ze4:∀l,(zdp l).Perm l
 | []=>List.Perm.refl _
 | x::l=>(ins_perm x _).trans ((ze4 l).cons x)
theorem flat_two:∀p,twoV (zaQ p)=p
 | []=>rfl
 | (a,b)::l=>by simp only [zaQ,twoV];rw [flat_two l]
theorem zgg:∀l:List PV,l.length % 2=0→zaQ (twoV l)=l
 | [],_=>rfl
 | [_],h=>by simp at h
 | a::b::l,h=>by simp only [twoV,zaQ];rw [zgg l (by simp at h;omega)]
theorem flat_len:∀p,(zaQ p).length % 2=0
 | []=>rfl
 | (a,b)::l=>by have:=flat_len l;simp only [zaQ,List.length_cons];omega
theorem zgz {x:PV}:∀p,x∈zaQ p↔∃q∈p,x=q.1∨x=q.2
 | []=>by simp [zaQ]
 | (a, b) :: l => by
   simp only [zaQ,List.mem_cons,zgz l]
   constructor
   · rintro (h|h|⟨q,hq,h⟩)
     · exact ⟨(a,b),.inl rfl,.inl h⟩
     · exact ⟨(a,b),.inl rfl,.inr h⟩
     · exact ⟨q,.inr hq,h⟩
   · rintro ⟨q,rfl|hq,h⟩
     · exact h.elim .inl (fun h=>.inr (.inl h))
     · exact .inr (.inr ⟨q,hq,h⟩)
theorem zeg : ∀ p : List (PV × PV), zdZ (zaQ p) = p.all fun q => q.1.kind == 5
 | []=>rfl
 | (a,b)::l=>by simp only [zaQ,zdZ,List.all_cons];rw [zeg l]
theorem zfI:∀(l:List PV) (x:PV),zdZ l=true→(l.length % 2=0→x.kind=5)→zdZ (l++[x])=true
 | [],x,_,h=>by simpa [zdZ] using h rfl
 | [a],x,h,_=>by simpa [zdZ] using h
 | a :: b :: l, x, h, hx => by
   simp only [zdZ,Bool.and_eq_true] at h
   simp only [List.cons_append,zdZ,Bool.and_eq_true]
   exact ⟨h.1,zfI l x h.2 fun h2=>hx (by simp;omega)⟩
theorem pairs_ok {l l2:List PV} (he:l.length % 2=0) (hn:zdZ l=true) (h:zcO l=some l2):l2.length % 2=0∧zdZ l2=true∧ascV (twoV l2)=true∧∀x∈l2,x∈l:=by
 unfold zcO at h
 split at h
 · cases h
 · rename_i ht
   cases h
   have hp:=ze4 (twoV l)
   refine ⟨flat_len _,?_,?_,fun x hx=>?_⟩
   · rw [zeg,List.all_eq_true]
     intro q hq
     have h1:=zeg (twoV l)
     rw [zgg l he,hn] at h1
     exact List.all_eq_true.1 h1.symm q (hp.mem_iff.1 hq)
   · rw [flat_two]
     exact asc_of _ (zc4 _) (by simpa using ht)
   · obtain ⟨q,hq,h1⟩:=(zgz _).1 hx
     rw [←zgg l he]
     exact (zgz _).2 ⟨q,hp.mem_iff.1 hq,h1⟩
def lvOk (d:Nat) (v:Lv):Prop:=(∀x∈v.l,zbQ x=0∧zcl x+d≤64)∧(v.dict=true→zdZ v.l=true)
def stOk:List Lv→Prop
 | []=>True
 | v::rest=>lvOk (rest.length+1) v∧rest.length+1≤64∧topW rest=false∧stOk rest
theorem tk_depth {v:PV} (h:v.kind≠6) (h2:v.kind≠7):zcl v=1:=by
 obtain ⟨k,n,s,l⟩:=v
 simp only [zcl]
 rw [if_neg (by rintro (e|e);exact h e;exact h2 e)]
theorem first_own {v:PV} (h:ownC v=0) (h6:v.kind≠6) (h7:v.kind≠7):zbQ v=0:=by
 obtain ⟨k,n,s,l⟩:=v
 simp only [zbQ]
 rw [if_neg (by simp [h]),if_neg (by rintro (e|e);exact h6 e;exact h7 e)]
def tkOk (t:Tk):Prop:=0≤t.kind∧t.kind≤6∧(t.kind=1→ownC (tkV t)=0∧t.vk≠6∧t.vk≠7)
theorem tkn {t:Tk} (n:Nat) (e:t.kind=n) (h:n≤6) (h1:n≠1):tkOk t:=⟨by omega,by omega,fun h2=>by omega⟩
theorem tk1 {t:Tk} (e:t.kind=1) (ho:ownC (tkV t)=0) (h6:t.vk≠6) (h7:t.vk≠7):tkOk t:=⟨by omega,by omega,fun _=>⟨ho,h6,h7⟩⟩
theorem own_num {k n:Int} (hk:k=2∨k=3) (hc:zbd k n true=0):ownC (.mk k n [] [])=0:=by
 simp only [ownC]
 rw [if_neg (by omega),if_neg (by omega),if_pos hk,if_pos ⟨by trivial,by trivial⟩]
 exact hc
theorem own_ref {n:Int} (h1:1≤n) (h2:n≤4096):ownC (.mk 8 n [] [])=0:=by simp [ownC,h1,h2]
theorem word_ok {w:List UInt8} {v:PV} (h:zdb w=some v):zbQ v=0∧zcl v=1:=by
 unfold zdb at h
 split at h
 · cases h;decide
 · split at h
   · cases h;decide
   · split at h
     · cases h;decide
     · cases h
theorem nameV_ok {w o:List UInt8} (h:zdc w=some o):¬(127<o.length∨(0:UInt8)∈o):=by
 unfold zdc at h
 split at h
 · cases h
 · split at h
   · cases h
   · rename_i hn
     cases h
     exact hn
theorem tokV_ok (last:Bool) (c:UInt8) (t:List UInt8) (h:(tokV last c t).1=0):tkOk (tokV last c t).2.1:=by
 unfold tokV at h ⊢
 split
 · rename_i q0
   rw [if_pos q0] at h
   try simp only at h ⊢
   split
   · rename_i q1;rw [if_pos q1] at h;cases h
   · rename_i q1
     rw [if_neg q1] at h
     split
     · rename_i q2
       rw [if_pos q2] at h
       have hc:=parseV_check _ h
       try simp only at hc
       have hk:(zaH ((c::t).takeWhile isRg)).1=2∨(zaH ((c::t).takeWhile isRg)).1=3:=by
         unfold zbd at hc
         split at hc
         · rename_i hq
           rcases hq.2 with hq|hq
           · exact .inl hq.1
           · exact .inr hq.1
         · cases hc
       refine tk1 rfl ?_ ?_ ?_
       · exact own_num hk hc
       · show (zaH _).1≠6;omega
       · show (zaH _).1≠7;omega
     · exact (by first|exact tkn 0 rfl (by decide) (by decide)|exact tkn 2 rfl (by decide) (by decide)|exact tkn 3 rfl (by decide) (by decide)|exact tkn 4 rfl (by decide) (by decide)|exact tkn 5 rfl (by decide) (by decide)|exact tkn 6 rfl (by decide) (by decide))
 · rename_i q0
   rw [if_neg q0] at h
   split
   · exact (by first|exact tkn 0 rfl (by decide) (by decide)|exact tkn 2 rfl (by decide) (by decide)|exact tkn 3 rfl (by decide) (by decide)|exact tkn 4 rfl (by decide) (by decide)|exact tkn 5 rfl (by decide) (by decide)|exact tkn 6 rfl (by decide) (by decide))
   · rename_i q1
     rw [if_neg q1] at h
     split
     · exact (by first|exact tkn 0 rfl (by decide) (by decide)|exact tkn 2 rfl (by decide) (by decide)|exact tkn 3 rfl (by decide) (by decide)|exact tkn 4 rfl (by decide) (by decide)|exact tkn 5 rfl (by decide) (by decide)|exact tkn 6 rfl (by decide) (by decide))
     · rename_i q2
       rw [if_neg q2] at h
       split
       · split
         · exact (by first|exact tkn 0 rfl (by decide) (by decide)|exact tkn 2 rfl (by decide) (by decide)|exact tkn 3 rfl (by decide) (by decide)|exact tkn 4 rfl (by decide) (by decide)|exact tkn 5 rfl (by decide) (by decide)|exact tkn 6 rfl (by decide) (by decide))
         · split
           · exact (by first|exact tkn 0 rfl (by decide) (by decide)|exact tkn 2 rfl (by decide) (by decide)|exact tkn 3 rfl (by decide) (by decide)|exact tkn 4 rfl (by decide) (by decide)|exact tkn 5 rfl (by decide) (by decide)|exact tkn 6 rfl (by decide) (by decide))
           · simp only
             split
             · exact tk1 rfl (by show ownC (.mk 4 0 _ [])=0;simp [ownC]) (by show (4:Int)≠6;decide) (by show (4:Int)≠7;decide)
             · split
               · exact (by first|exact tkn 0 rfl (by decide) (by decide)|exact tkn 2 rfl (by decide) (by decide)|exact tkn 3 rfl (by decide) (by decide)|exact tkn 4 rfl (by decide) (by decide)|exact tkn 5 rfl (by decide) (by decide)|exact tkn 6 rfl (by decide) (by decide))
               · exact (by first|exact tkn 0 rfl (by decide) (by decide)|exact tkn 2 rfl (by decide) (by decide)|exact tkn 3 rfl (by decide) (by decide)|exact tkn 4 rfl (by decide) (by decide)|exact tkn 5 rfl (by decide) (by decide)|exact tkn 6 rfl (by decide) (by decide))
       · rename_i q3
         rw [if_neg q3] at h
         split
         · split
           · exact (by first|exact tkn 0 rfl (by decide) (by decide)|exact tkn 2 rfl (by decide) (by decide)|exact tkn 3 rfl (by decide) (by decide)|exact tkn 4 rfl (by decide) (by decide)|exact tkn 5 rfl (by decide) (by decide)|exact tkn 6 rfl (by decide) (by decide))
           · split
             · exact (by first|exact tkn 0 rfl (by decide) (by decide)|exact tkn 2 rfl (by decide) (by decide)|exact tkn 3 rfl (by decide) (by decide)|exact tkn 4 rfl (by decide) (by decide)|exact tkn 5 rfl (by decide) (by decide)|exact tkn 6 rfl (by decide) (by decide))
             · exact (by first|exact tkn 0 rfl (by decide) (by decide)|exact tkn 2 rfl (by decide) (by decide)|exact tkn 3 rfl (by decide) (by decide)|exact tkn 4 rfl (by decide) (by decide)|exact tkn 5 rfl (by decide) (by decide)|exact tkn 6 rfl (by decide) (by decide))
         · rename_i q4
           rw [if_neg q4] at h
           split
           · split
             · exact (by first|exact tkn 0 rfl (by decide) (by decide)|exact tkn 2 rfl (by decide) (by decide)|exact tkn 3 rfl (by decide) (by decide)|exact tkn 4 rfl (by decide) (by decide)|exact tkn 5 rfl (by decide) (by decide)|exact tkn 6 rfl (by decide) (by decide))
             · exact tk1 rfl (by show ownC (.mk 4 0 _ [])=0;simp [ownC]) (by show (4:Int)≠6;decide) (by show (4:Int)≠7;decide)
           · rename_i q5
             rw [if_neg q5] at h
             split
             · simp only
               split
               · exact (by first|exact tkn 0 rfl (by decide) (by decide)|exact tkn 2 rfl (by decide) (by decide)|exact tkn 3 rfl (by decide) (by decide)|exact tkn 4 rfl (by decide) (by decide)|exact tkn 5 rfl (by decide) (by decide)|exact tkn 6 rfl (by decide) (by decide))
               · split
                 · exact (by first|exact tkn 0 rfl (by decide) (by decide)|exact tkn 2 rfl (by decide) (by decide)|exact tkn 3 rfl (by decide) (by decide)|exact tkn 4 rfl (by decide) (by decide)|exact tkn 5 rfl (by decide) (by decide)|exact tkn 6 rfl (by decide) (by decide))
                 · rename_i o ho
                   have hn:=nameV_ok ho
                   exact tk1 rfl (by show ownC (.mk 5 0 o [])=0;simp only [ownC];simp [hn]) (by show (5:Int)≠6;decide) (by show (5:Int)≠7;decide)
             · exact (by first|exact tkn 0 rfl (by decide) (by decide)|exact tkn 2 rfl (by decide) (by decide)|exact tkn 3 rfl (by decide) (by decide)|exact tkn 4 rfl (by decide) (by decide)|exact tkn 5 rfl (by decide) (by decide)|exact tkn 6 rfl (by decide) (by decide))
theorem zdr {bs:List UInt8} {k:Int} (last:Bool) (h:0≤k) (h2:k≤bs.length):tkOk (zai bs k last).1:=by
 rw [zc2 last h h2]
 cases hd:bs.drop (zaF bs k) with
 | nil=>rw [zdv last hd];exact (by first|exact tkn 0 rfl (by decide) (by decide)|exact tkn 2 rfl (by decide) (by decide)|exact tkn 3 rfl (by decide) (by decide)|exact tkn 4 rfl (by decide) (by decide)|exact tkn 5 rfl (by decide) (by decide)|exact tkn 6 rfl (by decide) (by decide))
 | cons c t =>
   rw [zcy last hd]
   split
   · rename_i h0;exact tokV_ok last c t h0
   · exact (by first|exact tkn 0 rfl (by decide) (by decide)|exact tkn 2 rfl (by decide) (by decide)|exact tkn 3 rfl (by decide) (by decide)|exact tkn 4 rfl (by decide) (by decide)|exact tkn 5 rfl (by decide) (by decide)|exact tkn 6 rfl (by decide) (by decide))
theorem zcW {bs:List UInt8} {k:Int} {last:Bool} (h:0≤k) (h2:k≤bs.length) (he:(zai bs k last).2.2.2=0) (hk:(zai bs k last).1.kind≠0):k<(zai bs k last).2.2.1:=by
 have:=(nextV_places last h h2).2.2 he hk
 omega
theorem refV_ok {bs:List UInt8} {last:Bool} {k:Int} (h:0≤k) (h2:k≤bs.length) {v:PV} (hv:ownC v=0) (hk:v.kind≠6∧v.kind≠7) (he:(refV bs last k v).2.2=0) :
   ownC (refV bs last k v).1=0∧(refV bs last k v).1.kind≠6∧(refV bs last k v).1.kind≠7∧k≤(refV bs last k v).2.1∧(refV bs last k v).2.1≤bs.length:=by
 obtain ⟨g1,g2⟩:=zbe last h h2
 unfold refV at he ⊢
 simp only at he ⊢
 split
 · exact ⟨hv,hk.1,hk.2,Int.le_refl _,h2⟩
 · rename_i q1
   simp only [if_neg q1] at he
   obtain ⟨r1,r2⟩:=zbe (bs:=bs) (k:=(zai bs k last).2.2.1) last (by omega) g2
   split
   · exact ⟨hv,hk.1,hk.2,Int.le_refl _,h2⟩
   · rename_i q2
     simp only [if_neg q2] at he
     split
     · rename_i q3;rw [if_pos q3] at he;cases he
     · rename_i q3
       refine ⟨?_,by show (8:Int)≠6;decide,by show (8:Int)≠7;decide,Int.le_trans g1 r1,r2⟩
       exact own_ref (by omega) (by omega)
theorem singleV_ok {bs:List UInt8} {last:Bool} {st:List Lv} {k:Int} (h:0≤k) (h2:k≤bs.length) {t:Tk} (ht:tkOk t) (hk:t.kind=1∨t.kind=6) (he:(zaK bs last st k t).2.2=0) :
   zbQ (zaK bs last st k t).1=0∧zcl (zaK bs last st k t).1=1∧(topW st=true→(zaK bs last st k t).1.kind=5)∧k≤(zaK bs last st k t).2.1∧(zaK bs last st k t).2.1≤bs.length:=by
 unfold zaK at he ⊢
 split
 · rename_i q;rw [if_pos q] at he;cases he
 · rename_i q
   rw [if_neg q] at he
   split
   · rename_i q6
     rw [if_pos q6] at he
     have hw:¬topW st=true:=fun e=>q ⟨e,.inl (by rw [q6];decide)⟩
     cases hwd:zdb t.s with
     | none=>rw [hwd] at he;cases he
     | some v =>
       obtain ⟨z1,z2⟩:=word_ok hwd
       exact ⟨z1,z2,fun e=>absurd e hw,Int.le_refl _,h2⟩
   · rename_i q6
     rw [if_neg q6] at he
     have h1:t.kind=1:=hk.resolve_right q6
     obtain ⟨o1,o2,o3⟩:=ht.2.2 h1
     split
     · rename_i qw
       rw [if_pos qw] at he
       obtain ⟨r1,r2,r3,r4,r5⟩:=refV_ok (last:=last) h h2 o1 ⟨o2,o3⟩ he
       have hw : ¬ topW st = true := fun e => q ⟨e, .inr (by
         unfold zaC at qw
         simp only [Bool.and_eq_true,beq_iff_eq] at qw
         rw [qw.2];decide)⟩
       exact ⟨first_own r1 r2 r3,tk_depth r2 r3,fun e=>absurd e hw,r4,r5⟩
     · refine ⟨first_own o1 o2 o3, tk_depth o2 o3, fun e => ?_, Int.le_refl _, h2⟩
       exact Decidable.byContradiction fun hn=>q ⟨e,.inr hn⟩
theorem lv_snoc {d:Nat} {v:Lv} {x:PV} (h:lvOk d v) (hx:zbQ x=0∧zcl x+d≤64) (hw:zcQ v=true→x.kind=5):lvOk d { v with l:=v.l++[x] }:=by
 refine ⟨fun y hy=>?_,fun hd=>zfI _ _ (h.2 hd) fun h2=>hw (by unfold zcQ;rw [show v.dict=true from hd];simp [h2])⟩
 rcases List.mem_append.1 hy with hy|hy
 · exact h.1 y hy
 · rw [List.mem_singleton.1 hy];exact hx
theorem end_ok {st:List Lv} {dict:Bool} (h:stOk st) (he:(zbG st dict).2.2=0) :
   ∃v rest,st=v::rest∧(zbG st dict).2.1=rest∧stOk rest∧zbQ (zbG st dict).1=0∧zcl (zbG st dict).1+rest.length≤64∧topW rest=false:=by
 cases st with
 | nil=>cases he
 | cons v rest =>
   obtain ⟨h1,h2,hw0,h3⟩:=h
   have hd : ∀ l : List PV, (∀ x ∈ l, x ∈ v.l) → 1 + zfx l + rest.length ≤ 64 := fun l hl => by
     have:=zfy (n:=63-rest.length) l fun x hx=>by have:=(h1.1 x (hl x hx)).2;omega
     omega
   refine ⟨v,rest,rfl,?_⟩
   unfold zbG at he ⊢
   simp only at he ⊢
   by_cases q1:v.dict≠dict∨(dict=true∧zcQ v=false)
   · rw [if_pos q1] at he;cases he
   · rw [if_neg q1] at he ⊢
     by_cases q2:dict=false
     · rw [if_pos q2]
       refine ⟨rfl,h3,?_,?_,hw0⟩
       · simp only [zbQ]
         rw [if_neg (by simp [ownC]),if_pos (by simp)]
         exact zd8 _ fun x hx=>(h1.1 x hx).1
       · simp only [zcl]
         rw [if_pos (by simp)]
         exact hd v.l fun _ h=>h
     · rw [if_neg q2] at he ⊢
       have hdt:dict=true:=by cases dict;exact absurd rfl q2;rfl
       have hvd:v.dict=true:=Decidable.byContradiction fun hn=>q1 (.inl (by rw [hdt];exact hn))
       have hw:zcQ v=true:=Decidable.byContradiction fun hn=>q1 (.inr ⟨hdt,by simpa using hn⟩)
       have hev:v.l.length % 2=0:=by
         unfold zcQ at hw
         simp only [Bool.and_eq_true,beq_iff_eq] at hw
         exact hw.2
       cases hp:zcO v.l with
       | none=>rw [hp] at he;cases he
       | some l2 =>
         obtain ⟨p1,p2,p3,p4⟩:=pairs_ok hev (h1.2 hvd) hp
         refine ⟨rfl,h3,?_,?_,hw0⟩
         · simp only [zbQ]
           rw [if_neg (by simp [ownC,p1,p2,p3]),if_pos (by simp)]
           exact zd8 _ fun x hx=>(h1.1 x (p4 x hx)).1
         · simp only [zcl]
           rw [if_pos (by simp)]
           exact hd l2 p4
theorem valO_may {bs:List UInt8} {last:Bool}:∀(g:Nat) (st:List Lv) (k:Int) (V:PV×Int×Int),0≤k→k≤bs.length→stOk st→valO bs last g st k=some V →
   (V.2.2=0→zbQ V.1=0∧zcl V.1≤64∧k<V.2.1∧V.2.1≤bs.length)∧(V.2.2≠0→V.1=PV.none∧V.2.1=0)
 | 0,_,_,_,_,_,_,hV=>by cases hV
 | g + 1, st, k, V, h, h2, hs, hV => by
   unfold valO at hV
   simp only at hV
   by_cases he:(zai bs k last).2.2.2≠0
   · rw [if_pos he] at hV
     cases hV
     exact ⟨fun e=>absurd e he,fun _=>⟨rfl,rfl⟩⟩
   · rw [if_neg he] at hV
     have he0:(zai bs k last).2.2.2=0:=by simpa using he
     obtain ⟨g1,g2⟩:=zbe last h h2
     have hok:=zdr last h h2
     have hfar:=zcW h h2 he0
     generalize (zai bs k last).2.2.1=to at *
     generalize (zai bs k last).1=t at *
     have key:∀v st2 at2 e2,za5 bs last st to t=(v,st2,at2,e2)→e2=0→t.kind≠0∧to≤at2∧at2≤bs.length∧stOk st2∧(∀x,v=some x→zbQ x=0∧zcl x+st2.length≤64∧(topW st2=true→x.kind=5)):=by
       intro v st2 at2 e2 hq e20
       subst e20
       unfold za5 at hq
       by_cases k0:t.kind=0
       · rw [if_pos k0] at hq;cases hq
       · rw [if_neg k0] at hq
         refine ⟨k0,?_⟩
         by_cases k24:t.kind=2∨t.kind=4
         · rw [if_pos k24] at hq
           simp only [Prod.mk.injEq] at hq
           obtain ⟨rfl,q2,rfl,q4⟩:=hq
           refine ⟨Int.le_refl _,g2,?_,fun x hx=>by cases hx⟩
           unfold zcb at q2 q4
           by_cases b1:topW st=true
           · rw [if_pos b1] at q4;cases q4
           · rw [if_neg b1] at q2 q4
             by_cases b2:64≤st.length
             · rw [if_pos b2] at q4;cases q4
             · rw [if_neg b2] at q2
               rw [←q2]
               exact ⟨⟨fun x hx=>(by cases hx),fun _=>rfl⟩,by omega,by simpa using b1,hs⟩
         · rw [if_neg k24] at hq
           by_cases k35:t.kind=3∨t.kind=5
           · rw [if_pos k35] at hq
             simp only at hq
             by_cases b1:(zbG st (t.kind==5)).2.2=0
             · rw [if_pos b1] at hq
               simp only [Prod.mk.injEq] at hq
               obtain ⟨rfl,rfl,rfl,-⟩:=hq
               obtain ⟨v0,rest,e1,e2,e3,e4,e5,e6⟩:=end_ok hs b1
               refine ⟨Int.le_refl _,g2,by rw [e2];exact e3,fun x hx=>?_⟩
               cases hx
               rw [e2]
               exact ⟨e4,e5,fun hw=>by rw [e6] at hw;cases hw⟩
             · rw [if_neg b1] at hq
               simp only [Prod.mk.injEq] at hq
               exact absurd hq.2.2.2 b1
           · rw [if_neg k35] at hq
             simp only at hq
             have hk16:t.kind=1∨t.kind=6:=by have:=hok.1;have:=hok.2.1;omega
             by_cases b1:(zaK bs last st to t).2.2≠0
             · rw [if_pos b1] at hq
               simp only [Prod.mk.injEq] at hq
               exact absurd hq.2.2.2 b1
             · rw [if_neg b1] at hq
               by_cases b2:64≤st.length
               · rw [if_pos b2] at hq
                 simp only [Prod.mk.injEq] at hq
                 exact absurd hq.2.2.2 (by decide)
               · rw [if_neg b2] at hq
                 simp only [Prod.mk.injEq] at hq
                 obtain ⟨rfl,rfl,rfl,-⟩:=hq
                 obtain ⟨s1,s2,s3,s4,s5⟩:=singleV_ok (last:=last) (st:=st) (by omega) g2 hok hk16 (by simpa using b1)
                 exact ⟨s4,s5,hs,fun x hx=>by cases hx;exact ⟨s1,by omega,s3⟩⟩
     generalize hZ:za5 bs last st to t=Z at hV key
     obtain ⟨v,st2,at2,e2⟩:=Z
     simp only at hV
     by_cases h0:e2≠0
     · rw [if_pos h0] at hV
       cases hV
       exact ⟨fun e=>absurd e h0,fun _=>⟨rfl,rfl⟩⟩
     · rw [if_neg h0] at hV
       obtain ⟨k1,k2,k3,k4,k5⟩:=key v st2 at2 e2 rfl (by simpa using h0)
       have hkt:=hfar k1
       have hrec : ∀ st3, stOk st3 → valO bs last g st3 at2 = some V → (V.2.2 = 0 → zbQ V.1 = 0 ∧ zcl V.1 ≤ 64 ∧ k < V.2.1 ∧ V.2.1 ≤ bs.length) ∧ (V.2.2 ≠ 0 → V.1 = PV.none ∧ V.2.1 = 0) := fun st3 hs3 hv3 => by
         obtain ⟨p1,p2⟩:=valO_may g st3 at2 V (by omega) k3 hs3 hv3
         exact ⟨fun e=>by obtain ⟨z1,z2,z3,z4⟩:=p1 e;exact ⟨z1,z2,by omega,z4⟩,p2⟩
       cases v with
       | none=>exact hrec st2 k4 hV
       | some x =>
         obtain ⟨x1,x2,x3⟩:=k5 x rfl
         cases st2 with
         | nil =>
           cases hV
           exact ⟨fun _=>⟨x1,by simpa using x2,by show k<at2;omega,k3⟩,fun e=>absurd rfl e⟩
         | cons top rest =>
           obtain ⟨z1,z2,zw,z3⟩:=k4
           exact hrec ({ top with l:=top.l++[x] }::rest) (show lvOk _ _∧_∧_∧_ from ⟨lv_snoc z1 ⟨x1,by simp only [List.length_cons] at x2;omega⟩ (fun hw=>x3 hw),z2,zw,z3⟩) hV
theorem refV_at {bs:List UInt8} {last:Bool} {k:Int} (h:0≤k) (h2:k≤bs.length) (v:PV):k≤(refV bs last k v).2.1∧(refV bs last k v).2.1≤bs.length:=by
 obtain ⟨g1,g2⟩:=zbe last h h2
 unfold refV
 simp only
 split
 · exact ⟨Int.le_refl _,h2⟩
 · obtain ⟨r1, r2⟩ := zbe (bs := bs) (k := (zai bs k last).2.2.1) last (by omega) g2
   split
   · exact ⟨Int.le_refl _,h2⟩
   · split
     · exact ⟨Int.le_refl _,h2⟩
     · exact ⟨Int.le_trans g1 r1,r2⟩
theorem singleV_at {bs:List UInt8} {last:Bool} {k:Int} (h:0≤k) (h2:k≤bs.length) (st:List Lv) (t:Tk):k≤(zaK bs last st k t).2.1∧(zaK bs last st k t).2.1≤bs.length:=by
 unfold zaK
 split
 · exact ⟨Int.le_refl _,h2⟩
 · split
   · split
     · exact ⟨Int.le_refl _,h2⟩
     · exact ⟨Int.le_refl _,h2⟩
   · split
     · exact refV_at h h2 _
     · exact ⟨Int.le_refl _,h2⟩
theorem stepV_at {bs:List UInt8} {last:Bool} {k:Int} (h:0≤k) (h2:k≤bs.length) (st:List Lv) (t:Tk):k≤(za5 bs last st k t).2.2.1∧(za5 bs last st k t).2.2.1≤bs.length:=by
 unfold za5
 split
 · exact ⟨Int.le_refl _,h2⟩
 · split
   · exact ⟨Int.le_refl _,h2⟩
   · split
     · simp only
       split
       · exact ⟨Int.le_refl _,h2⟩
       · exact ⟨Int.le_refl _,h2⟩
     · simp only
       have:=singleV_at (last:=last) h h2 st t
       split
       · exact this
       · split
         · exact this
         · exact this
theorem zfJ {bs:List UInt8} {last:Bool} {k:Int} {st:List Lv} {t:Tk} (h:(za5 bs last st k t).2.2.2=0):t.kind≠0:=by
 intro e
 unfold za5 at h
 rw [if_pos e] at h
 cases h
theorem zeM (bs:List UInt8) (last:Bool):∀(g:Nat) (st:List Lv) (k:Int),0≤k→k≤bs.length→((bs.length:Int)-k).toNat<g→∃V,valO bs last g st k=some V
 | 0,_,_,_,_,h=>by omega
 | g + 1, st, k, h, h2, hg => by
   unfold valO
   simp only
   by_cases he:(zai bs k last).2.2.2≠0
   · rw [if_pos he];exact ⟨_,rfl⟩
   · rw [if_neg he]
     have he0:(zai bs k last).2.2.2=0:=by simpa using he
     obtain ⟨g1,g2⟩:=zbe last h h2
     have hfar:=zcW h h2 he0
     generalize (zai bs k last).2.2.1=to at *
     generalize (zai bs k last).1=t at *
     obtain ⟨s1,s2⟩:=stepV_at (bs:=bs) (last:=last) (k:=to) (by omega) g2 st t
     have sk:=zfJ (bs:=bs) (last:=last) (k:=to) (st:=st) (t:=t)
     generalize za5 bs last st to t=Z at *
     obtain ⟨v,st2,at2,e2⟩:=Z
     simp only at s1 s2 sk ⊢
     by_cases h0:e2≠0
     · rw [if_pos h0];exact ⟨_,rfl⟩
     · rw [if_neg h0]
       have hk:=hfar (sk (by simpa using h0))
       cases v with
       | none=>exact zeM bs last g st2 at2 (by omega) s2 (by omega)
       | some x =>
         cases st2 with
         | nil=>exact ⟨_,rfl⟩
         | cons top rest=>exact zeM bs last g _ at2 (by omega) s2 (by omega)
def insK (x:PV×PV):List (PV×PV)→List (PV×PV)
 | []=>[x]
 | y::l=>if sLt x.1.s y.1.s then x::y::l else y::insK x l
def hasK (s:List UInt8) (l:List (PV×PV)):Bool:=l.any fun y=>y.1.s==s
def repK (x:PV×PV):List (PV×PV)→List (PV×PV)
 | []=>[]
 | y::l=>if y.1.s=x.1.s then (y.1,x.2)::l else y::repK x l
def putK (x:PV×PV) (l:List (PV×PV)):List (PV×PV):=if hasK x.1.s l then repK x l else insK x l
def docS:List (PV×PV)→List (PV×PV)→Bool→List (PV×PV)×Bool
 | [],l,tw=>(l,tw)
 | x::p,l,tw=>docS p (putK x l) (tw||hasK x.1.s l)
def ascP:List (PV×PV)→Prop
 | []=>True
 | x::l=>(∀y∈l,sLt x.1.s y.1.s=true)∧ascP l
theorem sLt_tr:∀a b c:List UInt8,sLt a b=true→sLt b c=true→sLt a c=true
 | [],[],_,h,_=>by simp [sLt] at h
 | [],_::_,[],_,h=>by simp [sLt] at h
 | [],_::_,_::_,_,_=>by simp [sLt]
 | _::_,[],_,h,_=>by simp [sLt] at h
 | _::_,_::_,[],_,h=>by simp [sLt] at h
 | x :: a, y :: b, z :: c, h1, h2 => by
   simp only [sLt] at h1 h2 ⊢
   by_cases p1:x.toNat<y.toNat
   · by_cases p2:y.toNat<z.toNat
     · rw [if_pos (by omega)]
     · rw [if_neg p2] at h2
       by_cases p3:z.toNat<y.toNat
       · rw [if_pos p3] at h2;cases h2
       · rw [if_pos (by omega)]
   · rw [if_neg p1] at h1
     by_cases p4:y.toNat<x.toNat
     · rw [if_pos p4] at h1;cases h1
     · rw [if_neg p4] at h1
       by_cases p2:y.toNat<z.toNat
       · rw [if_pos (by omega)]
       · rw [if_neg p2] at h2
         by_cases p3:z.toNat<y.toNat
         · rw [if_pos p3] at h2;cases h2
         · rw [if_neg p3] at h2
           rw [if_neg (by omega),if_neg (by omega)]
           exact sLt_tr a b c h1 h2
theorem sLt_ir:∀a:List UInt8,sLt a a=false
 | []=>rfl
 | x::a=>by simp only [sLt];rw [if_neg (by omega),if_neg (by omega)];exact sLt_ir a
theorem zgC {x y:PV×PV}:∀l,y∈insK x l↔y=x∨y∈l
 | []=>by simp [insK]
 | z :: l => by
   simp only [insK]
   split
   · simp
   · rw [List.mem_cons,zgC l,List.mem_cons]
     constructor
     · rintro (h|h|h)
       · exact .inr (.inl h)
       · exact .inl h
       · exact .inr (.inr h)
     · rintro (h|h|h)
       · exact .inr (.inl h)
       · exact .inl h
       · exact .inr (.inr h)
theorem zfl (x:PV×PV):∀l,(insK x l).Perm (x::l)
 | []=>List.Perm.refl _
 | y :: l => by
   simp only [insK]
   split
   · exact List.Perm.refl _
   · exact ((zfl x l).cons y).trans (List.Perm.swap x y l)
theorem insK_asc {x:PV×PV}:∀l,ascP l→hasK x.1.s l=false→ascP (insK x l)
 | [],_,_=>⟨fun y hy=>(by cases hy),trivial⟩
 | y :: l, h, hh => by
   simp only [hasK,List.any_cons,Bool.or_eq_false_iff,beq_eq_false_iff_ne] at hh
   simp only [insK]
   split
   · rename_i hlt
     refine ⟨fun z hz=>?_,h⟩
     rcases List.mem_cons.1 hz with rfl|hz
     · exact hlt
     · exact sLt_tr _ _ _ hlt (h.1 z hz)
   · rename_i hlt
     have hyx:sLt y.1.s x.1.s=true:=zcJ _ _ (by simpa using hlt) (fun e=>hh.1 e.symm)
     refine ⟨fun z hz=>?_,insK_asc l h.2 hh.2⟩
     rcases (zgC l).1 hz with rfl|hz
     · exact hyx
     · exact h.1 z hz
theorem zfA:∀l m:List (PV×PV),ascP l→ascP m→l.Perm m→l=m
 | [],m,_,_,h=>(List.Perm.nil_eq h).symm▸rfl
 | x::l,[],_,_,h=>absurd h.length_eq (by simp)
 | x :: l, y :: m, hl, hm, h => by
   have hxy:x=y:=by
     have h1:x∈y::m:=h.mem_iff.1 (List.mem_cons_self)
     have h2:y∈x::l:=h.mem_iff.2 (List.mem_cons_self)
     rcases List.mem_cons.1 h1 with h1|h1
     · exact h1
     · rcases List.mem_cons.1 h2 with h2|h2
       · exact h2.symm
       · have a1:=hm.1 x h1
         have a2:=hl.1 y h2
         rw [sLt_as _ _ a1] at a2
         cases a2
   subst hxy
   rw [zfA l m hl.2 hm.2 ((List.perm_cons x).1 h)]
theorem zd4:∀l:List (PV×PV),zfp l→zb0 l=false→ascP l
 | [],_,_=>trivial
 | [x],_,_=>⟨fun y hy=>(by cases hy),trivial⟩
 | x :: y :: l, h, ht => by
   simp only [zb0,Bool.or_eq_false_iff,beq_eq_false_iff_ne] at ht
   have hr:=zd4 (y::l) h.2 ht.2
   have hxy:sLt x.1.s y.1.s=true:=zcJ _ _ h.1 (fun e=>ht.1 e.symm)
   refine ⟨fun z hz=>?_,hr⟩
   rcases List.mem_cons.1 hz with rfl|hz
   · exact hxy
   · exact sLt_tr _ _ _ hxy (hr.1 z hz)
def ze5:List (PV×PV)→Prop
 | []=>True
 | x::l=>(∀y∈l,y.1.s≠x.1.s)∧ze5 l
theorem zb6 {l m:List (PV×PV)} (h:l.Perm m):ze5 l→ze5 m:=by
 induction h with
 | nil=>exact id
 | cons x h ih=>exact fun ⟨h1,h2⟩=>⟨fun y hy=>h1 y (h.mem_iff.2 hy),ih h2⟩
 | swap x y l =>
   rintro ⟨h1,h2,h3⟩
   refine ⟨fun z hz=>?_,fun z hz=>h1 z (List.mem_cons_of_mem _ hz),h3⟩
   rcases List.mem_cons.1 hz with rfl|hz
   · exact fun e=>h1 x (List.mem_cons_self) e.symm
   · exact h2 z hz
 | trans _ _ ih1 ih2=>exact fun h=>ih2 (ih1 h)
theorem zfj:∀l:List (PV×PV),zb0 l=true→¬ze5 l
 | [],h,_=>by cases h
 | [_],h,_=>by cases h
 | x :: y :: l, h, hn => by
   simp only [zb0,Bool.or_eq_true,beq_iff_eq] at h
   rcases h with h|h
   · exact hn.1 y (List.mem_cons_self) h.symm
   · exact zfj (y::l) h hn.2
theorem zeH:∀l:List (PV×PV),ascP l→ze5 l
 | [],_=>trivial
 | x::l,h=>⟨fun y hy e=>(by have:=h.1 y hy;rw [e,sLt_ir] at this;cases this),zeH l h.2⟩
theorem hasK_no {s:List UInt8} {l:List (PV×PV)}:hasK s l=false↔∀y∈l,y.1.s≠s:=by
 unfold hasK
 rw [List.any_eq_false]
 simp
theorem docS_tw:∀p l,(docS p l true).2=true
 | [],_=>rfl
 | x::p,l=>by simp only [docS,Bool.true_or];exact docS_tw p _
theorem docS_is:∀(p l:List (PV×PV)),ascP l→((docS p l false).2=false→ascP (docS p l false).1∧(docS p l false).1.Perm (l++p))∧((docS p l false).2=true→¬ze5 (l++p))
 | [],l,h=>⟨fun _=>⟨h,by simp [docS]⟩,fun e=>by cases e⟩
 | x :: p, l, h => by
   simp only [docS,Bool.false_or]
   cases hk:hasK x.1.s l with
   | true =>
     refine ⟨fun e=>?_,fun _ hn=>?_⟩
     · rw [docS_tw] at e;cases e
     · have h1:=zb6 (List.perm_middle) hn
       have h2:hasK x.1.s l=false:=hasK_no.2 fun y hy=>h1.1 y (List.mem_append_left _ hy)
       rw [hk] at h2;cases h2
   | false =>
     have e1:putK x l=insK x l:=by unfold putK;rw [hk];rfl
     rw [e1]
     obtain ⟨r1,r2⟩:=docS_is p (insK x l) (insK_asc l h hk)
     have hp:(insK x l++p).Perm (l++x::p):=((zfl x l).append_right p).trans (List.perm_middle.symm)
     exact ⟨fun e=>⟨(r1 e).1,(r1 e).2.trans hp⟩,fun e hn=>r2 e (zb6 hp.symm hn)⟩
theorem pairs_doc (l:List PV):zcO l=if (docS (twoV l) [] false).2=true then none else some (zaQ (docS (twoV l) [] false).1):=by
 obtain ⟨r1,r2⟩:=docS_is (twoV l) [] trivial
 have hp:=ze4 (twoV l)
 unfold zcO
 cases hd:(docS (twoV l) [] false).2 with
 | true =>
   have hn:=r2 hd
   have ht:zb0 (zdp (twoV l))=true:=by
     cases h:zb0 (zdp (twoV l)) with
     | true=>rfl
     | false=>exact absurd (zb6 hp (zeH _ (zd4 _ (zc4 _) h))) hn
   rw [if_pos ht,if_pos rfl]
 | false =>
   obtain ⟨q1,q2⟩:=r1 hd
   have hn:ze5 (twoV l):=zb6 q2 (zeH _ q1)
   have ht:zb0 (zdp (twoV l))=false:=by
     cases h:zb0 (zdp (twoV l)) with
     | false=>rfl
     | true=>exact absurd (zb6 hp.symm hn) (zfj _ h)
   rw [if_neg (by simp [ht]),if_neg (by simp)]
   rw [zfA _ _ (zd4 _ (zc4 _) ht) q1 (hp.trans q2.symm)]
theorem docS_snoc:∀(p:List (PV×PV)) (x:PV×PV) (l:List (PV×PV)) (tw:Bool),docS (p++[x]) l tw=(putK x (docS p l tw).1,(docS p l tw).2||hasK x.1.s (docS p l tw).1)
 | [],_,_,_=>rfl
 | y::p,x,l,tw=>by simp only [List.cons_append,docS];exact docS_snoc p x _ _
theorem two_snoc:∀(l:List PV) (a b:PV),l.length % 2=0→twoV (l++[a,b])=twoV l++[(a,b)]
 | [],_,_,_=>rfl
 | [_],_,_,h=>by simp at h
 | x::y::l,a,b,h=>by simp only [List.cons_append,twoV];rw [two_snoc l a b (by simp at h;omega)]
end Go.Proofs.YtkhcjoomijkfbaaGreatDoor
