/-
  Our texts Base to ParS, in one.
-/
import Derived.WalkKit
import Derived.WalkSpells
import Derived.WalkLawsBesides
import Derived.Lib.Hide
import Derived.Test.YtkhcjoomijkfbaaGreatDoorRows
import Derived.ProofKit
import Derived.OpenShut
import Derived.Lib.SmallJoins
set_option maxRecDepth 8000
set_option maxHeartbeats 8000000
namespace Go.Proofs.YtkhcjoomijkfbaaGreatDoor
open Go.RowKit
def Row (w:World) (sz:Nat) (a:Option Addr) (n cap:Nat) (xs:List Value):Prop :=
 xs.length=n * sz∧n≤cap∧cap≤maxLen∧(a=none→cap=0) ∧
   (0<n→∃b off,a=some ⟨b,off,none⟩∧b<w.heap.size∧∀j u,xs[j]?=some u→w.cell? ⟨b,off+j,none⟩=some u)
theorem cell?_keep {w w':World} (hb:Below w.heap.size w w') {a:Addr} {v:Value} (h:w.cell? a=some v):w'.cell? a=some v :=
 (hb.cell (World.block_lt_of_cell? w a h)).trans h
theorem Row.mono {w w':World} {sz:Nat} {a:Option Addr} {n cap:Nat} {xs:List Value} (h:Row w sz a n cap xs) (hb:Below w.heap.size w w'):Row w' sz a n cap xs:=by
 obtain ⟨h1,h2,h3,h4,h5⟩:=h
 refine ⟨h1,h2,h3,h4,fun hn=>?_⟩
 obtain ⟨b,off,ha,hlt,hc⟩:=h5 hn
 exact ⟨b,off,ha,Nat.lt_of_lt_of_le hlt hb.size,fun j u hj=>cell?_keep hb (hc j u hj)⟩
theorem Row.i64 {w:World} {sz:Nat} {a:Option Addr} {n cap:Nat} {xs:List Value} (h:Row w sz a n cap xs):(n:Int)≤9223372036854775807:=by
 have:=h.2.1;have:=h.2.2.1;unfold maxLen at this;omega
theorem Row.i64c {w:World} {sz:Nat} {a:Option Addr} {n cap:Nat} {xs:List Value} (h:Row w sz a n cap xs):(cap:Int)≤9223372036854775807:=by
 have:=h.2.2.1;unfold maxLen at this;omega
theorem Row.at {α:Type} {enc:α→Value} (d:α) {w:World} {a:Option Addr} {n cap:Nat} {l:List α} (h:Row w 1 a n cap (l.map enc)) (k:Nat) (hk:k<n) :
   ∃b off,a=some ⟨b,off,none⟩∧b<w.heap.size∧∀k,k<n→w.cell? ⟨b,off+k,none⟩=some (enc (l.getD k d)):=by
 obtain ⟨h1,h2,h3,h4,h5⟩:=h
 obtain ⟨b,off,rfl,hb,hc⟩:=h5 (by omega)
 refine ⟨b,off,rfl,hb,fun k hk=>hc k _ ?_⟩
 simp at h1 ⊢
 have:k<l.length:=by omega
 simp [this]
theorem Row.len1 {α:Type} {enc:α→Value} {w:World} {a:Option Addr} {n cap:Nat} {l:List α} (h:Row w 1 a n cap (l.map enc)):l.length=n:=by
 have:=h.1;simpa using this
theorem Row.nil (w:World) (sz:Nat):Row w sz none 0 0 []:=⟨by simp,Nat.le_refl _,by simp [maxLen],fun _=>rfl,fun h=>by omega⟩
theorem Row.of_owns {w:World} {base e sz:Nat} {v:Value} {n:Nat} {xs:List Value} (h:w.ownsRow base e sz v n xs) :
   ∃a cap,v=.slice a n cap∧Row w sz a n cap xs∧∀x,a=some x→base≤x.block:=by
 obtain ⟨h1,h2⟩:=h
 rcases h2 with ⟨rfl,rfl⟩|⟨g,cap,cur,rfl,hb,hg,hn,hm,hs,ht⟩
 · have : xs = [] := List.eq_nil_of_length_eq_zero (by simpa using h1)
   subst this
   exact ⟨none,0,rfl,Row.nil w sz,fun x hx=>by cases hx⟩
 · refine ⟨some ⟨g, 0, none⟩, cap, rfl, ⟨h1, hn, hm, fun h => (by cases h), fun _ => ⟨g, 0, rfl, (Array.getElem?_eq_some_iff.1 hg).1, fun j u hj => ?_⟩⟩, fun x hx => by cases hx; exact hb⟩
   rw [Nat.zero_add,cell_of_row w g j cur e (0,0) hg]
   rw [←ht,List.getElem?_take] at hj
   split at hj
   · simpa using hj
   · cases hj
theorem Row.of_own {w:World} {base e sz:Nat} {a:Option Addr} {n m cap:Nat} {xs:List Value} (h:w.ownsRow base e sz (.slice a n cap) m xs):n=m∧Row w sz a n cap xs:=by
 obtain ⟨a',cap',hv,hr,_⟩:=Row.of_owns h
 simp only [Value.slice.injEq] at hv
 obtain ⟨rfl,rfl,rfl⟩:=hv
 exact ⟨rfl,hr⟩
theorem zay {w w':World} {base e sz:Nat} {v:Value} {n:Nat} {xs:List Value} (h:w.ownsRow base e sz v n xs) (hb:Below w.heap.size w w'):w'.ownsRow base e sz v n xs:=by
 obtain ⟨h1,h2⟩:=h
 refine ⟨h1,?_⟩
 rcases h2 with h2|⟨g,cap,cur,hv,hg,hh,r⟩
 · exact .inl h2
 · exact .inr ⟨g,cap,cur,hv,hg,by rw [hb.block g (Array.getElem?_eq_some_iff.1 hh).1];exact hh,r⟩
theorem zbT {w:World} {base base' e sz:Nat} {v:Value} {n:Nat} {xs:List Value} (h:w.ownsRow base e sz v n xs) (hb:base'≤base):w.ownsRow base' e sz v n xs:=by
 obtain ⟨h1,h2⟩:=h
 refine ⟨h1,?_⟩
 rcases h2 with h2|⟨g,cap,cur,hv,hg,r⟩
 · exact .inl h2
 · exact .inr ⟨g,cap,cur,hv,by omega,r⟩
theorem zab {w w':World} (hb:Below w.heap.size w w') {b:Nat} {o:Obj} (h:w.heap[b]?=some o):w'.heap[b]?=some o:=by
 rw [hb.block b (Array.getElem?_eq_some_iff.1 h).1];exact h
structure zfp (P:Program) (t e:TypeId) (z:Value) (size bytes:Nat):Prop where
 und:P.underlying t=some (.slice e)
 info:(P.info? e).map (fun i=>(i.zero,i.size,i.bytes))=some (some z,size,bytes)
 cells:z.cells.size=size
 pos:0<size
theorem zan {k:IntKind} {a b:Int} (h:a=b):Ending.returned (.int k a)=.returned (.int k b):=by rw [h]
theorem zbH {a b:Bool} (h:a=b):Ending.returned (.bool a)=.returned (.bool b):=by rw [h]
theorem make_full {P:Program} {w:World} {ops:Array Oper} {rest:List Oper} {o:Oper} {a:Act} {Q:Exit→Act→World→Prop} {t e:TypeId} {z:Value} {size bytes:Nat} (T:zfp P t e z size bytes)
   (hg:o.guard=none) (l c:Operand) (hop:o.op=Op.makeSlice t l c)
   (kl kc:IntKind) (L C:Int) (n:Nat) (hl:a.eval l=.int kl L) (hc:a.eval c=.int kc C) (hL:L=(n:Int)) (hC:C=(n:Int)) (b2:bytes * n≤281474976710656) (b3:n≤maxLen)
   (hK:∀w',w'.ownsRow w.heap.size e size (.slice (some ⟨w.heap.size,0,none⟩) n n) n (madeCells z.cells (n * size)).toList→Below w.heap.size w w'→wpList P ops Q rest (a.put o.dst (.slice (some ⟨w.heap.size,0,none⟩) n n)) w') :
   wpList P ops Q (o::rest) a w:=by
 obtain ⟨i,hi,hz,hs,hb⟩:=info_parts T.info
 subst hb
 exact wpList_make_full w hg l c t hop w.heap.size e i z size T.und hi hz hs kl kc L C n hl hc hL hC b2 b3 (Nat.le_refl _)
   fun w' h1 h2=>hK w' h1 ((Below.refl _ _).grown h2 (Nat.le_refl _) (fun k hk=>by cases hk))
def fl (n:Nat) (enc:Nat→Value):List Value:=(List.range n).map enc
theorem zbs (n:Nat) (enc:Nat→Value):(fl n enc).length=n:=by simp [fl]
theorem fl_get {n:Nat} (enc:Nat→Value) {i:Nat} (h:i<n):(fl n enc)[i]?=some (enc i):=by simp [fl,h]
theorem fl_set (n : Nat) (enc : Nat → Value) (i : Nat) (v : Value) : (fl n enc).set i v = fl n (fun j => if j = i then v else enc j) := by
 apply List.ext_getElem?
 intro j
 simp only [fl,List.getElem?_set,List.getElem?_map,List.length_map,List.length_range]
 by_cases hj:j<n
 · by_cases hi:i=j
   · subst hi;simp [hj]
   · simp [hi,hj,Ne.symm hi]
 · by_cases hi:i=j
   · subst hi;simp [hj]
   · simp [hi,hj]
theorem zax {n:Nat} {f g:Nat→Value} (h:∀i,i<n→f i=g i):fl n f=fl n g:=by
 apply List.map_congr_left
 intro i hi
 exact h i (by simpa using hi)
theorem fl_replicate (n : Nat) (v : Value) : List.replicate n v = fl n (fun _ => v) := by
 apply List.ext_getElem?
 intro j
 by_cases hj:j<n<;>simp [fl,hj]
theorem zac {w:World} {b:Nat} (o:Obj) (h:b=w.heap.size):(w.alloc o).heap[b]?=some o:=by subst h;exact heap_alloc_new w o
theorem zak {w:World} {b:Nat} (o:Obj) {o':Obj} (h:w.heap[b]?=some o'):(w.alloc o).heap[b]?=some o':=by
 rw [Below.heap_alloc w o b (Array.getElem?_eq_some_iff.1 h).1];exact h
theorem zal (w:World) (o:Obj):(w.alloc o).heap.size=w.heap.size+1:=by
 show (w.heap.push o).size=_
 simp
theorem zah (w:World) (o:Obj):Below w.heap.size w (w.alloc o):=(Below.refl _ _).alloc (Nat.le_refl _) o
theorem zcg (w:World) (o o2:Obj):Below w.heap.size w ((w.alloc o).alloc o2):=(zah w o).alloc (by rw [zal];omega) o2
theorem zh6 (w:World) (o o2 o3:Obj):Below w.heap.size w (((w.alloc o).alloc o2).alloc o3):=(zcg w o o2).alloc (by rw [zal,zal];omega) o3
theorem zff {B:Nat} {w0 w:World} (h:Below B w0 w) {g:Nat} (hg:B≤g) (cs:Array Value):Below B w0 (w.setRow g cs) :=
 h.trans ⟨rfl,rfl,rfl,by simp,fun j hj=>setRow_other _ _ _ _ (by omega)⟩
theorem zaD {w:World} {b n:Nat} {enc:Nat→Value} {t:TypeId} {fr:Nat×Nat} (h:w.heap[b]?=some (.cells (fl n enc).toArray t fr)) (i:Nat) (hi:i<n):w.cell? ⟨b,i,none⟩=some (enc i):=by
 rw [cell_of_row w b i _ t fr h];simp [fl,hi]
theorem zbN {w:World} {b:Nat} {cs:Array Value} {t:TypeId} (h:w.heap[b]?=some (.cells cs t (0,0))) (i:Nat):w.frozen? ⟨b,i,none⟩=false:=frozen_of_row w b i cs t h
theorem zby {w:World} {b n:Nat} {enc:Nat→Value} {t:TypeId} (h:w.heap[b]?=some (.cells (fl n enc).toArray t (0,0))) (i:Nat) (v:Value) :
   (w.setCell ⟨b,i,none⟩ v).heap[b]?=some (.cells (fl n (fun j=>if j=i then v else enc j)).toArray t (0,0)):=by
 rw [heap_setCell_same w b i _ t v h,List.setIfInBounds_toArray,fl_set]
theorem za3 {w:World} {b:Nat} {o:Obj} (h:w.heap[b]?=some o) {a:Addr} (ha:a.block≠b) (v:Value):(w.setCell a v).heap[b]?=some o:=by
 rw [heap_setCell_other w a b v (Ne.symm ha)];exact h
theorem store_fresh {P:Program} {ops:Array Oper} {rest:List Oper} {o:Oper} {a:Act} {w0:World} {Q:Exit→Act→World→Prop} (hgd:o.guard=none) (ty:TypeId) (x y:Operand) (ho:o.op=.store ty x y)
   (z:Array Value) (t:TypeId) (cells:Array Value) (hx:a.eval x=.pointer (some ⟨w0.heap.size,0,none⟩)) (hy:a.eval y=.agg cells)
   (hi:(P.info? ty).map (·.size)=some cells.size) (hold:z.size=cells.size) (h1:cells.all (·.oneCell')=true)
   (h:∀w',w'.heap[w0.heap.size]?=some (.cells cells t (0,0))→Below w0.heap.size w0 w'→w'.heap.size=w0.heap.size+1→wpList P ops Q rest (a.put o.dst undef) w'):wpList P ops Q (o::rest) a (w0.alloc (.cells z t)) :=
 wpList_store_row hgd ty x y ho w0.heap.size cells hx hy t z (zac _ rfl) hi hold h1
   (h _ (setRow_heap _ _ _ _ _ _ (zac _ rfl)) (zff (zah w0 _) (Nat.le_refl _) _) (by rw [size_setRow,zal]))
theorem zbJ {P:Program} {w:World} {ops:Array Oper} {rest:List Oper} {o:Oper} {a:Act} {Q:Exit→Act→World→Prop} {t e:TypeId} {z:Value} {size bytes:Nat} (T:zfp P t e z size bytes)
   (hgd:o.guard=none) (s x:Operand) (ho:o.op=.call { callee:=.builtin .append,args:=#[s,x],argTypes:=#[t,t] })
   (base:Nat) (v:Value) (n:Nat) (xs:List Value) (hs:a.eval s=v) (hown:w.ownsRow base e size v n xs)
   (ao:Option Addr) (m c:Nat) (news:List Value) (hx:a.eval x=.slice ao m c) (hr:Row w size ao m c news) (h1:∀u∈news,u.oneCell'=true)
   (h63:n+m≤maxLen) (hbytes:(n+m) * bytes≤140737488355328) (hbase:base≤w.heap.size)
   (h:∀v' w',w'.ownsRow base e size v' (n+m) (xs++news)→w.grownBy w' v.ownBlock→(v'=.slice none 0 0↔v=.slice none 0 0∧m=0)→wpList P ops Q rest (a.put o.dst v') w'):wpList P ops Q (o::rest) a w:=by
 obtain ⟨i,hi,hz,hs',hb⟩:=info_parts T.info
 subst hb
 obtain ⟨r1,r2,r3,r4,r5⟩:=hr
 cases ao with
 | some ad =>
   refine wpList_append_own w hgd s x t ho base e i z size i.bytes T.und hi hz hs' rfl T.cells T.pos v n xs hs hown ad m c news hx r1 (fun j u hj=>?_) h1 h63 hbytes hbase h
   by_cases hm:0<m
   · obtain ⟨b,off,hab,_,hc⟩:=r5 hm
     obtain rfl:=Option.some.inj hab
     rw [Addr.add_lit];exact hc j u hj
   · obtain rfl : m = 0 := by omega
     have:news=[]:=List.eq_nil_of_length_eq_zero (by simpa using r1)
     subst this;simp at hj
 | none =>
   obtain rfl:=r4 rfl
   obtain rfl:m=0:=by omega
   have:news=[]:=List.eq_nil_of_length_eq_zero (by simpa using r1)
   subst this
   refine wpList_plain hgd fun K hK=>?_
   have hrun:=run_append_owned_none (P:=P) w base t o.type e i size T.und hi v n xs hown
   unfold Oper.wp
   simp [execOp,ho,resolve,invoke,builtin,hs,hx,hrun,Result.andThen]
   exact hK _ _ (h v w (by simpa using hown) ⟨rfl,rfl,rfl,Nat.le_refl _,fun _ _ _=>rfl⟩ (by simp))
def NN (a:Option Addr) (v:Value):Prop:=a≠none→v≠.slice none 0 0
theorem zfR {B:Nat} {w0 w w':World} {row:Option Nat} (h:Below B w0 w) (hg:w.grownBy w' row) (hB:B≤w.heap.size) (hr:∀k,row=some k→B≤k):Below B w0 w':=h.grown hg hB hr
theorem zc2 (w:World) (x:Value) (e:TypeId):Row (w.alloc (.cells #[x] e)) 1 (some ⟨w.heap.size,0,none⟩) 1 1 [x] :=
 ⟨rfl, Nat.le_refl _, by simp [maxLen], fun h => (by cases h), fun _ => ⟨w.heap.size, 0, rfl, by rw [zal]; omega, fun j u hj => by
   rw [cell_of_row _ _ _ _ _ _ (zac _ rfl)]
   rcases j with _|j
   · simpa using hj
   · simp at hj⟩⟩
theorem zeS {x:Value} (h:x.oneCell'=true):∀u∈[x],u.oneCell'=true:=by
 intro u hu;simp at hu;subst hu;exact h
theorem zgP {B:Nat} {w w':World} (h:Below B w w') {b o:Nat} {v:Value} (hb:b<B) (hc:w.cell? ⟨b,o,none⟩=some v):w'.cell? ⟨b,o,none⟩=some v:=(h.cell (p:=⟨b,o,none⟩) hb).trans hc
theorem Row.below {B:Nat} {w w':World} {sz:Nat} {a:Option Addr} {n cap:Nat} {xs:List Value} (h:Row w sz a n cap xs) (hb:Below B w w') (ha:∀x,a=some x→x.block<B):Row w' sz a n cap xs:=by
 obtain ⟨h1,h2,h3,h4,h5⟩:=h
 refine ⟨h1,h2,h3,h4,fun hn=>?_⟩
 obtain ⟨b,off,ha',hlt,hc⟩:=h5 hn
 exact ⟨b,off,ha',Nat.lt_of_lt_of_le hlt hb.size,fun j u hj=>zgP hb (ha _ ha') (hc j u hj)⟩
theorem Row.lt {w:World} {sz:Nat} {a:Option Addr} {n cap:Nat} {xs:List Value} (h:Row w sz a n cap xs) (hn:0<n):∀x,a=some x→x.block<w.heap.size:=by
 obtain ⟨b,off,ha,hlt,_⟩:=h.2.2.2.2 hn
 intro x hx
 rw [ha] at hx;cases hx;exact hlt
theorem row_arg {k:IntKind} {w:World} {a:Option Addr} {len cap:Nat} {zs:List Int}
   (h:(a=none∧len=0∧cap=0∧zs=[])∨∃x,a=some x∧len≤cap∧cap≤maxLen∧zs.length=cap∧(∀i,i<zs.length→w.cell? (x.add i)=some (.int k (zs.getD i 0)))∧∀n∈zs,(Lit.int k n).wf=true) :
   Row w 1 a len cap ((zs.take len).map (Value.int k))∧(∀n∈zs.take len,(Lit.int k n).wf=true)∧(zs.take len).length=len:=by
 rcases h with ⟨rfl,rfl,rfl,rfl⟩|⟨x,rfl,hl,hm,hz,hc,hw⟩
 · exact ⟨Row.nil w 1,by simp,by simp⟩
 · refine ⟨⟨by simp; omega, hl, hm, fun h => (by cases h), fun hn => ?_⟩, fun n hn => hw n (List.mem_of_mem_take hn), by simp; omega⟩
   have h0:=hc 0 (by omega)
   have hb:=World.block_lt_of_cell? w _ h0
   obtain ⟨b,off,spot⟩:=x
   have hspot:spot=none:=by simpa [Addr.add] using World.cell?_spot h0
   subst hspot
   refine ⟨b,off,rfl,by simpa [Addr.add] using hb,fun j u hj=>?_⟩
   have hj2:j<len:=by
     have:=(List.getElem?_eq_some_iff.1 hj).1
     simp at this;omega
   have h1:=hc j (by omega)
   rw [Addr.add_lit] at h1
   rw [h1,←hj]
   simp [hj2,List.getD,show j<zs.length by omega]
theorem zad {B:Nat} {a w:World} (h:Below B a w) (n:Nat):Below B a (w.drewN n):=⟨h.os,h.tape,h.output,h.size,h.block⟩
theorem wf_i64_bd {n:Int} (h:(Lit.int .i64 n).wf=true):-9223372036854775808≤n∧n≤9223372036854775807:=by
 simp [Lit.wf,IntKind.min,IntKind.max,IntKind.signed,IntKind.bits] at h;omega
theorem row_bytes {w:World} {a:Option Addr} {len cap:Nat} {zs:List Int}
   (h:(a=none∧len=0∧cap=0∧zs=[])∨∃x,a=some x∧len≤cap∧cap≤maxLen∧zs.length=cap∧(∀i,i<zs.length→w.cell? (x.add i)=some (.int .u8 (zs.getD i 0)))∧∀n∈zs,(Lit.int .u8 n).wf=true) :
   ∃bs:List UInt8,bs.length=len∧Row w 1 a bs.length cap (bs.map fun b=>Value.int .u8 b.toNat):=by
 obtain ⟨hr,hw,hl⟩:=row_arg h
 refine ⟨(zs.take len).map fun n=>UInt8.ofNat n.toNat,by simpa using hl,?_⟩
 have e : ((zs.take len).map fun n => UInt8.ofNat n.toNat).map (fun b => Value.int .u8 b.toNat) = (zs.take len).map (Value.int .u8) := by
   rw [List.map_map]
   refine List.map_congr_left fun n hn=>?_
   have:=hw n hn
   simp [Lit.wf,IntKind.min,IntKind.max,IntKind.signed,IntKind.bits] at this
   simp
   omega
 rw [e,List.length_map,hl]
 exact hr
end Go.Proofs.YtkhcjoomijkfbaaGreatDoor
namespace Go.Proofs.YtkhcjoomijkfbaaGreatDoor
def layF:Array Value:=(Go.Pinned.utf8FirstZ.map fun (n:Nat)=>Value.int .u8 n).toArray
def layA:Array Value:=([128,191,160,191,128,159,144,191,128,143,0,0,0,0,0,0,0,0,0,0,0,0,0,0,0,0,0,0,0,0,0,0].map fun (n:Nat)=>Value.int .u8 n).toArray
def layS1 (w:World) (g:Nat) (cs:Array Value):World:={ w with heap:=w.heap.modify g fun
     | .cells _ t frozen=>.cells cs t frozen
     | o=>o }
def layS2 (w:World):World:=layS1 (layS1 w 1 layF) 2 layA
theorem snoc_ind {α:Type} {p:List α→Prop} (h0:p []) (h1:∀l c,p l→p (l++[c])) (l:List α):p l:=by
 have h:∀r:List α,p r.reverse:=by
   intro r
   induction r with
   | nil=>exact h0
   | cons c r ih=>rw [List.reverse_cons];exact h1 _ _ ih
 have h2:=h l.reverse
 rwa [List.reverse_reverse] at h2
def isDg (c:UInt8):Bool:=decide (48≤c.toNat)&&decide (c.toNat≤57)
def dgV (c:UInt8):Nat:=c.toNat-48
def decV:List UInt8→Nat→Nat
 | [],n=>n
 | c::l,n=>decV l (10 * n+dgV c)
def valD (l:List UInt8):Nat:=decV l 0
theorem zcV {c:UInt8}:isDg c=true↔48≤c.toNat∧c.toNat≤57:=by unfold isDg;simp
theorem isDg_no {c:UInt8}:isDg c=false↔c.toNat<48∨57<c.toNat:=by
 rw [←Bool.not_eq_true,zcV];omega
theorem dgV_le {c:UInt8} (h:isDg c=true):dgV c≤9:=by rw [zcV] at h;unfold dgV;omega
theorem zhy {c:UInt8} (h:isDg c=true):(dgV c:Int)=(c.toNat:Int)-48:=by rw [zcV] at h;unfold dgV;omega
theorem zdV:∀(l m:List UInt8) (n:Nat),decV (l++m) n=decV m (decV l n)
 | [],_,_=>rfl
 | c::l,m,n=>zdV l m (10 * n+dgV c)
theorem valD_nil:valD []=0:=rfl
theorem zcd (l:List UInt8) (c:UInt8):valD (l++[c])=10 * valD l+dgV c:=by unfold valD;rw [zdV];rfl
theorem zdl (l:List UInt8):∀j,valD (l++List.replicate j 48)=valD l * 10 ^ j
 | 0=>by simp
 | j + 1 => by
   rw [List.replicate_succ',←List.append_assoc,zcd,zdl l j,Nat.pow_succ,show dgV 48=0 from rfl]
   rw [Nat.add_zero,Nat.mul_comm (10 ^ j) 10,←Nat.mul_assoc,←Nat.mul_assoc,Nat.mul_comm (valD l) 10]
theorem zed (l:List UInt8) (c:UInt8) (h:l.all isDg=true) (hc:isDg c=true):(l++[c]).all isDg=true:=by simp [hc];simpa using h
theorem valD_lt:∀(l:List UInt8),l.all isDg=true→valD l<10 ^ l.length:=by
 refine snoc_ind (fun _=>by decide) fun l c ih=>?_
 · intro h
   rw [List.all_append,Bool.and_eq_true] at h
   have h1:=ih h.1
   have h2:=dgV_le (c:=c) (by simpa using h.2)
   rw [zcd,List.length_append,List.length_singleton,Nat.pow_succ]
   omega
def zbY (l:List UInt8):Int×Int:=if l=[]∨l.all isDg=false then (0,11) else if 2147483647<valD l then (0,5) else (((valD l:Nat):Int),0)
theorem digitsV_nil:zbY []=(0,11):=by simp [zbY]
theorem digitsV_form {l:List UInt8} (h:l.all isDg=false):zbY l=(0,11):=by unfold zbY;rw [if_pos (.inr h)]
theorem zfn {l:List UInt8} (hn:l≠[]) (h:l.all isDg=true) (ho:2147483647<valD l):zbY l=(0,5):=by
 unfold zbY;rw [if_neg (by rw [h];simpa using hn),if_pos ho]
theorem zeQ {l:List UInt8} (hn:l≠[]) (h:l.all isDg=true) (ho:valD l≤2147483647):zbY l=(((valD l:Nat):Int),0):=by
 unfold zbY;rw [if_neg (by rw [h];simpa using hn),if_neg (by omega)]
def mil (r:List UInt8):Nat:=valD ((r++List.replicate 6 48).take 6)
theorem zfI {r:List UInt8} (h:r.length≤6):mil r=valD r * 10 ^ (6-r.length):=by
 unfold mil
 rw [List.take_append,List.take_of_length_le h,List.take_replicate,Nat.min_eq_left (by omega),zdl]
theorem zhM {r:List UInt8} (h:6≤r.length):mil r=valD (r.take 6):=by
 unfold mil
 rw [List.take_append_of_le_length h]
theorem mil_snoc_lt (r:List UInt8) (c:UInt8) (h:r.length<6):mil (r++[c])=mil r+10 ^ (5-r.length) * dgV c:=by
 rw [zfI (by simp;omega),zfI (by omega),zcd,List.length_append,List.length_singleton]
 rw [show 6-r.length=(5-r.length)+1 from by omega,show 6-(r.length+1)=5-r.length from by omega,Nat.pow_succ,Nat.add_mul]
 rw [Nat.mul_comm (dgV c)]
 congr 1
 rw [Nat.mul_comm 10 (valD r),Nat.mul_assoc,Nat.mul_comm 10]
theorem mil_snoc_ge (r:List UInt8) (c:UInt8) (h:6≤r.length):mil (r++[c])=mil r:=by
 rw [zhM h,zhM (by simp;omega),List.take_append_of_le_length h]
theorem zg9 (r:List UInt8) (h:r.all isDg=true):mil r<1000000:=by
 by_cases hl:r.length≤6
 · have:=valD_lt ((r++List.replicate 6 48).take 6) (by
     rw [List.all_eq_true]
     intro x hx
     have hx:=List.mem_of_mem_take hx
     rw [List.mem_append] at hx
     rcases hx with hx|hx
     · exact List.all_eq_true.1 h x hx
     · rw [List.mem_replicate] at hx;rw [hx.2];rfl)
   unfold mil
   have hlen:((r++List.replicate 6 48).take 6:List UInt8).length=6:=by simp
   rw [hlen] at this
   omega
 · rw [zhM (by omega)]
   have:=valD_lt (r.take 6) (by rw [List.all_eq_true];intro x hx;exact List.all_eq_true.1 h x (List.mem_of_mem_take hx))
   rw [List.length_take,Nat.min_eq_left (by omega)] at this
   omega
def zdM (s:List UInt8):Int:=if s.head?=some 45 then -1 else 1
def zdJ (s:List UInt8):List UInt8:=if s.head?=some 45∨s.head?=some 43 then s.tail else s
def zbz (b:List UInt8):List UInt8:=b.takeWhile (· != 46)
def zcU (b:List UInt8):List UInt8:=(b.dropWhile (· != 46)).tail
def zeI (b:List UInt8):Bool:=b.any (·==46)
def za0 (sg:Int) (b:List UInt8):Int×Int×Int :=
 if (zbz b).length+(zcU b).length=0∨(zbz b).all isDg=false∨(zcU b).all isDg=false then (0,0,11)
 else if 2147483647<valD (zbz b) then (0,0,5)
 else if zeI b=false then (2,sg * (valD (zbz b):Nat),0)
 else if 2147483647000000<valD (zbz b) * 1000000+mil (zcU b) then (0,0,5)
 else (3,sg * ((valD (zbz b) * 1000000+mil (zcU b):Nat):Int),0)
def zaF (s:List UInt8):Int×Int×Int:=za0 (zdM s) (zdJ s)
theorem tw_app (w t:List UInt8) (hw:∀x∈w,x≠46):zbz (w++46::t)=w∧zcU (w++46::t)=t∧zeI (w++46::t)=true:=by
 induction w with
 | nil=>simp [zbz,zcU,zeI]
 | cons x w ih =>
   have hx:x≠46:=hw x (List.mem_cons_self)
   obtain ⟨h1,h2,h3⟩:=ih fun y hy=>hw y (List.mem_cons_of_mem _ hy)
   refine ⟨?_,?_,by simp [zeI]⟩
   · unfold zbz at *
     rw [List.cons_append,List.takeWhile_cons_of_pos (by simpa using hx),h1]
   · unfold zcU at *
     rw [List.cons_append,List.dropWhile_cons_of_pos (by simpa using hx),h2]
theorem tw_none (b:List UInt8) (hb:∀x∈b,x≠46):zbz b=b∧zcU b=[]∧zeI b=false:=by
 induction b with
 | nil=>simp [zbz,zcU,zeI]
 | cons x w ih =>
   have hx:x≠46:=hb x (List.mem_cons_self)
   obtain ⟨h1,h2,h3⟩:=ih fun y hy=>hb y (List.mem_cons_of_mem _ hy)
   refine ⟨?_,?_,?_⟩
   · unfold zbz at *
     rw [List.takeWhile_cons_of_pos (by simpa using hx),h1]
   · unfold zcU at *
     rw [List.dropWhile_cons_of_pos (by simpa using hx),h2]
   · unfold zeI at *
     rw [List.any_cons,h3];simpa using hx
theorem dg_ne {x:UInt8} (h:isDg x=true):x≠46:=by rintro rfl;revert h;decide
theorem all_ne {w:List UInt8} (h:w.all isDg=true):∀x∈w,x≠46:=fun x hx=>dg_ne (List.all_eq_true.1 h x hx)
theorem zfW {l:List UInt8} {c:UInt8} (h:c∈l) (hc:isDg c=false):l.all isDg=false:=by
 rw [←Bool.not_eq_true,List.all_eq_true];intro h2;rw [h2 c h] at hc;exact absurd hc (by decide)
theorem parseB_bad2 (sg:Int) (w r t:List UInt8) (c:UInt8) (hw:w.all isDg=true) (hd:isDg c=false):za0 sg (w++46::(r++c::t))=(0,0,11):=by
 obtain ⟨h1,h2,h3⟩:=tw_app w (r++c::t) (all_ne hw)
 unfold za0
 rw [h2,if_pos (.inr (.inr (zfW (c:=c) (by simp) hd)))]
theorem zgO (sg:Int) (b:List UInt8) (h:b.all isDg=true):za0 sg b=if b.length=0 then (0,0,11) else if 2147483647<valD b then (0,0,5) else (2,sg * (valD b:Nat),0):=by
 obtain ⟨h1,h2,h3⟩:=tw_none b (all_ne h)
 unfold za0
 rw [h1,h2,h3]
 by_cases hb:b.length=0
 · rw [if_pos (.inl (by simp [hb])),if_pos hb]
 · rw [if_neg (by rw [h];simp;intro e;exact hb (by simp [e])),if_neg hb];rfl
theorem parseB_real (sg:Int) (w r:List UInt8) (hw:w.all isDg=true) (hr:r.all isDg=true) :
   za0 sg (w++46::r)=if w.length+r.length=0 then (0,0,11) else if 2147483647<valD w∨(valD w=2147483647∧0<mil r) then (0,0,5) else (3,sg * ((valD w * 1000000+mil r:Nat):Int),0):=by
 obtain ⟨h1,h2,h3⟩:=tw_app w r (all_ne hw)
 have hm:=zg9 r hr
 unfold za0
 rw [h1,h2,h3]
 by_cases hb:w.length+r.length=0
 · rw [if_pos (.inl hb),if_pos hb]
 · rw [if_neg (by rw [hw, hr]; simp; intro e1 e2; exact hb (by simp [e1, e2])), if_neg hb, if_neg (by decide : ¬ (true = false))]
   by_cases h4:2147483647<valD w
   · rw [if_pos h4,if_pos (.inl h4)]
   · rw [if_neg h4]
     by_cases h5:valD w=2147483647∧0<mil r
     · rw [if_pos (by omega),if_pos (.inr h5)]
     · rw [if_neg (by omega),if_neg (by omega)]
def decL (n:Nat):List UInt8:=if n<10 then [UInt8.ofNat (48+n)] else decL (n / 10)++[UInt8.ofNat (48+n % 10)]
termination_by n
theorem zb6 {n:Nat} (h:n<10):decL n=[UInt8.ofNat (48+n)]:=by rw [decL,if_pos h]
theorem zd4 {n:Nat} (h:10≤n):decL n=decL (n / 10)++[UInt8.ofNat (48+n % 10)]:=by rw [decL,if_neg (by omega)]
theorem dig_isDg {d:Nat} (h:d<10):isDg (UInt8.ofNat (48+d))=true:=by
 rw [zcV,UInt8.toNat_ofNat'];omega
theorem dig_dgV {d:Nat} (h:d<10):dgV (UInt8.ofNat (48+d))=d:=by
 unfold dgV;rw [UInt8.toNat_ofNat'];omega
theorem zbS (n:Nat):(decL n).all isDg=true∧valD (decL n)=n∧1≤(decL n).length:=by
 induction n using Nat.strongRecOn with
 | ind n ih =>
   by_cases h:n<10
   · rw [zb6 h]
     refine ⟨by rw [List.all_cons,dig_isDg h];rfl,?_,by simp⟩
     show valD ([]++[_])=n
     rw [zcd,valD_nil,dig_dgV h];omega
   · obtain ⟨h1, h2, h3⟩ := ih (n / 10) (by omega)
     rw [zd4 (by omega)]
     refine ⟨zed _ _ h1 (dig_isDg (by omega)),?_,by simp⟩
     rw [zcd,h2,dig_dgV (by omega)];omega
theorem zaQ:∀(k n:Nat),n<10 ^ (k+1)→(decL n).length≤k+1
 | 0,n,h=>by rw [zb6 (by simpa using h)];simp
 | k + 1, n, h => by
   by_cases h10:n<10
   · rw [zb6 h10];simp
   · rw [zd4 (by omega), List.length_append, List.length_singleton]
     have:=zaQ k (n / 10) (by rw [Nat.div_lt_iff_lt_mul (by omega)];rwa [Nat.pow_succ] at h)
     omega
theorem zgu:∀(k n:Nat),10 ^ k≤n→k+1≤(decL n).length
 | 0,n,_=>(zbS n).2.2
 | k + 1, n, h => by
   have hp:1≤10 ^ k:=Nat.pow_pos (by omega)
   rw [Nat.pow_succ] at h
   rw [zd4 (by omega),List.length_append,List.length_singleton]
   have:=zgu k (n / 10) (by rw [Nat.le_div_iff_mul_le (by omega)];exact h)
   omega
def fixD (n:Nat):Nat→List UInt8
 | 0=>[]
 | k+1=>UInt8.ofNat (48+n / 10 ^ k % 10)::fixD n k
theorem zfA (n:Nat):∀k,(fixD n k).length=k
 | 0=>rfl
 | k+1=>by simp [fixD,zfA n k]
theorem zgv (n:Nat):∀k,fixD n (k+1)=fixD (n / 10) k++[UInt8.ofNat (48+n % 10)]
 | 0=>by simp [fixD]
 | k + 1 => by
   rw [fixD,zgv n k]
   show _=(UInt8.ofNat (48+n / 10 / 10 ^ k % 10)::fixD (n / 10) k)++_
   rw [Nat.div_div_eq_div_mul,Nat.pow_succ,Nat.mul_comm 10,List.cons_append]
theorem fixD_zero:∀k,fixD 0 k=List.replicate k 48
 | 0=>rfl
 | k+1=>by rw [fixD,fixD_zero k,List.replicate_succ,Nat.zero_div];rfl
def padL (n d:Nat):List UInt8:=List.replicate (d-(decL n).length) 48++decL n
theorem fixD_pad:∀(k n:Nat),n<10 ^ (k+1)→fixD n (k+1)=padL n (k+1)
 | 0, n, h => by
   have h10:n<10:=by simpa using h
   unfold padL
   rw [zb6 h10,zgv]
   simp [fixD,Nat.mod_eq_of_lt h10]
 | k + 1, n, h => by
   rw [zgv]
   by_cases h10:n<10
   · unfold padL
     rw [zb6 h10,show n / 10=0 from by omega,fixD_zero,Nat.mod_eq_of_lt h10];rfl
   · rw [fixD_pad k (n / 10) (by rw [Nat.div_lt_iff_lt_mul (by omega)]; rwa [Nat.pow_succ] at h)]
     unfold padL
     rw [zd4 (n:=n) (by omega),List.length_append,List.length_singleton,show k+1+1-((decL (n / 10)).length+1)=k+1-(decL (n / 10)).length from by omega,List.append_assoc]
theorem zcP {n d:Nat} (h:d≤(decL n).length):padL n d=decL n:=by
 unfold padL;rw [show d-(decL n).length=0 from by omega];rfl
theorem fixD_end (n least k:Nat) (hl:1≤least) (hk:least≤k) (h0:n / 10 ^ k=0) (h1:least<k→n / 10 ^ (k-1)≠0):fixD n k=padL n least:=by
 have hn:n<10 ^ k:=by
   rcases Nat.lt_or_ge n (10 ^ k) with h|h
   · exact h
   · have := (Nat.le_div_iff_mul_le (Nat.pow_pos (by omega : 0 < 10))).2 (by rwa [Nat.one_mul] : 1 * 10 ^ k ≤ n)
     omega
 obtain ⟨j,rfl⟩:∃j,k=j+1:=⟨k-1,by omega⟩
 rw [fixD_pad j n hn]
 by_cases he:least=j+1
 · rw [he]
 · have h2:10 ^ j≤n:=by
     have:=h1 (by omega)
     rw [show j+1-1=j from rfl] at this
     rcases Nat.lt_or_ge n (10 ^ j) with h|h
     · exact absurd (Nat.div_eq_of_lt h) this
     · exact h
   have h3:=zgu j n h2
   rw [zcP h3,zcP (by omega)]
def padV (n digits:Int):List UInt8×Int :=
 if n<0∨digits<1∨20<digits∨digits<((decL n.toNat).length:Int) then ([],2) else (padL n.toNat digits.toNat,0)
def zaS (k n:Int) (bare:Bool):Int :=
 if bare=true∧((k=2∧-2147483647≤n∧n≤2147483647)∨(k=3∧-2147483647000000≤n∧n≤2147483647000000)) then 0 else 2
def zca (l:List UInt8):List UInt8:=(l.reverse.dropWhile (·==48)).reverse
def zbk (f:List UInt8):List UInt8:=f.take 1++zca (f.drop 1)
def absL (k:Int) (n:Nat):List UInt8:=if k=2 then decL n else decL (n / 1000000)++46::zbk (padL (n % 1000000) 6)
def zb4 (n:Int):List UInt8:=if n<0 then [45] else []
def zc7 (k n:Int) (bare:Bool):List UInt8×Int:=if zaS k n bare=0 then (zb4 n++absL k n.natAbs,0) else ([],2)
theorem zeH (l:List UInt8):zca (l++[48])=zca l:=by unfold zca;simp
theorem zeW (l:List UInt8) (c:UInt8) (h:c≠48):zca (l++[c])=l++[c]:=by
 unfold zca
 rw [List.reverse_append,List.reverse_singleton,List.singleton_append,List.dropWhile_cons_of_neg (by simpa using h)]
 simp
theorem trimR_zeros (l:List UInt8):∃j,l=zca l++List.replicate j 48:=by
 refine snoc_ind (p:=fun l=>∃j,l=zca l++List.replicate j 48) ⟨0,by simp [zca]⟩ (fun l c ih=>?_) l
 · by_cases h:c=48
   · subst h
     obtain ⟨j,hj⟩:=ih
     refine ⟨j+1,?_⟩
     rw [zeH,List.replicate_succ',←List.append_assoc,←hj]
   · exact ⟨0,by rw [zeW l c h];simp⟩
theorem zeb {n d:Nat} (h:(decL n).length≤d):(padL n d).length=d:=by unfold padL;simp;omega
theorem padL_all (n d:Nat):(padL n d).all isDg=true:=by
 unfold padL
 rw [List.all_append,(zbS n).1,Bool.and_true,List.all_eq_true]
 intro x hx;rw [List.mem_replicate] at hx;rw [hx.2];rfl
theorem valD_zl (j:Nat) (l:List UInt8):valD (List.replicate j 48++l)=valD l:=by
 have:=zdl [] j
 simp only [List.nil_append,valD_nil,Nat.zero_mul] at this
 unfold valD at *
 rw [zdV,this]
theorem zhP (n d:Nat):valD (padL n d)=n:=by unfold padL;rw [valD_zl,(zbS n).2.1]
theorem mil_trimF (m:Nat) (h:m<1000000):mil (zbk (padL m 6))=m∧(zbk (padL m 6)).all isDg=true∧1≤(zbk (padL m 6)).length∧(zbk (padL m 6)).length≤6:=by
 have hl:(padL m 6).length=6:=zeb (by have:=zaQ 5 m (by omega);omega)
 have ha:=padL_all m 6
 have hv:=zhP m 6
 generalize padL m 6=f at *
 obtain ⟨j,hj⟩:=trimR_zeros (f.drop 1)
 have hf:f=zbk f++List.replicate j 48:=by
   unfold zbk;rw [List.append_assoc,←hj,List.take_append_drop]
 have hlen:(zbk f).length+j=6:=by have:=congrArg List.length hf;simpa [hl] using this.symm
 have hal:(zbk f).all isDg=true:=by
   rw [hf,List.all_append,Bool.and_eq_true] at ha;exact ha.1
 refine ⟨?_,hal,?_,by omega⟩
 · rw [zfI (by omega),show 6-(zbk f).length=j from by omega,←zdl,←hf,hv]
 · unfold zbk;rw [List.length_append,List.length_take];omega
theorem zfm {k n:Int} {b:Bool} (h:zaS k n b=0):b=true∧((k=2∧-2147483647≤n∧n≤2147483647)∨(k=3∧-2147483647000000≤n∧n≤2147483647000000)):=by
 unfold zaS at h
 split at h
 · assumption
 · omega
theorem head_dg {l t:List UInt8} (h:l.all isDg=true) (hl:1≤l.length):(l++t).head?≠some 45∧(l++t).head?≠some 43:=by
 cases l with
 | nil=>simp at hl
 | cons x l =>
   have hx:isDg x=true:=List.all_eq_true.1 h x List.mem_cons_self
   constructor<;>(intro e;simp at e;subst e;revert hx;decide)
theorem parseV_check (s:List UInt8) (h:(zaF s).2.2=0):zaS (zaF s).1 (zaF s).2.1 true=0:=by
 unfold zaF za0 at *
 have hsg:zdM s=1∨zdM s=-1:=by unfold zdM;split<;>simp
 generalize zdM s=sg at *
 generalize zbz (zdJ s)=w at *
 generalize zcU (zdJ s)=r at *
 generalize zeI (zdJ s)=p at *
 split at h
 · simp at h
 · rename_i c1
   rw [if_neg c1]
   split at h
   · simp at h
   · rename_i c2
     rw [if_neg c2]
     split at h
     · rename_i c3
       rw [if_pos c3]
       unfold zaS
       rw [if_pos]
       refine ⟨rfl,.inl ⟨rfl,?_⟩⟩
       simp only
       rcases hsg with rfl|rfl<;>omega
     · rename_i c3
       rw [if_neg c3]
       split at h
       · simp at h
       · rename_i c4
         rw [if_neg c4]
         unfold zaS
         rw [if_pos]
         refine ⟨rfl,.inr ⟨rfl,?_⟩⟩
         simp only
         rcases hsg with rfl|rfl<;>omega
def isSp (c:UInt8):Bool:=c==0||c==9||c==10||c==12||c==13||c==32
def isDl (c:UInt8):Bool:=c==40||c==41||c==60||c==62||c==91||c==93||c==123||c==125||c==47||c==37
def isRg (c:UInt8):Bool:=!isSp c&&!isDl c
def isOc (c:UInt8):Bool:=decide (48≤c.toNat)&&decide (c.toNat≤55)
def hexD (c:UInt8):Int :=
 if 48≤c.toNat∧c.toNat≤57 then (c.toNat:Int)-48 else if 97≤c.toNat∧c.toNat≤102 then (c.toNat:Int)-87 else if 65≤c.toNat∧c.toNat≤70 then (c.toNat:Int)-55 else -1
theorem hexD_bd (c:UInt8):-1≤hexD c∧hexD c≤15:=by
 unfold hexD
 repeat' split
 all_goals omega
def zaP:Bool→List UInt8→Nat
 | _,[]=>0
 | true,c::l=>1+zaP (c != 10&&c != 13) l
 | false,c::l=>if c=37 then 1+zaP true l else if isSp c=true then 1+zaP false l else 0
theorem zeg:∀(b:Bool) (l:List UInt8),zaP b l≤l.length
 | _,[]=>by simp [zaP]
 | true,c::l=>by have:=zeg (c != 10&&c != 13) l;simp only [zaP,List.length_cons];omega
 | false, c :: l => by
   have h1:=zeg true l
   have h2:=zeg false l
   simp only [zaP,List.length_cons]
   split
   · omega
   · split<;>omega
def zaW (bs:List UInt8) (k:Int):Nat:=if k<0 then 0 else if (bs.length:Int)≤k then bs.length else k.toNat+zaP false (bs.drop k.toNat)
def zdE (last:Bool):List UInt8→Option Nat
 | []=>if last then some 0 else none
 | d::_=>some (if d=10 then 1 else 0)
def octV (last:Bool) (c:UInt8):List UInt8→Option (Nat×Nat)
 | []=>if last then some (c.toNat-48,1) else none
 | d :: t => if isOc d = true then
     (match t with
       | []=>if last then some (8 * (c.toNat-48)+(d.toNat-48),2) else none
       | e::_=>if isOc e=true then some (8 * (8 * (c.toNat-48)+(d.toNat-48))+(e.toNat-48),3) else some (8 * (c.toNat-48)+(d.toNat-48),2))
   else some (c.toNat-48,1)
def escV (last:Bool):List UInt8→Option (List UInt8×Nat)
 | []=>none
 | c::t =>
   if c=110 then some ([10],1) else if c=114 then some ([13],1) else if c=116 then some ([9],1) else if c=98 then some ([8],1) else if c=102 then some ([12],1)
   else if isOc c=true then (octV last c t).map fun x=>([UInt8.ofNat x.1],x.2)
   else if c=10 then some ([],1)
   else if c=13 then (zdE last t).map fun k=>([],k+1)
   else some ([c],1)
def zaX (last:Bool) (deep:Nat) (out:List UInt8) (l:List UInt8):Option (List UInt8×List UInt8) :=
 match l with
 | []=>none
 | c::t =>
   if c=92 then (match escV last t with|none=>none|some (x,k)=>zaX last deep (out++x) (t.drop k))
   else if c=13 then (match zdE last t with|none=>none|some k=>zaX last deep (out++[10]) (t.drop k))
   else if c=40 then zaX last (deep+1) (out++[c]) t
   else if c=41 then (if deep=1 then some (out,t) else zaX last (deep-1) (out++[c]) t)
   else zaX last deep (out++[c]) t
termination_by l.length
decreasing_by all_goals (simp only [List.length_cons,List.length_drop];omega)
def hexV (out:List UInt8) (half:Int):List UInt8→Int×List UInt8×List UInt8
 | []=>(1,[],[])
 | c::t =>
   if c=62 then (0,if 0≤half then out++[UInt8.ofNat (16 * half).toNat] else out,t)
   else if isSp c=true then hexV out half t
   else if hexD c<0 then (11,[],[])
   else if half<0 then hexV out (hexD c) t
   else hexV (out++[UInt8.ofNat (16 * half+hexD c).toNat]) (-1) t
def zbA (out:List UInt8):List UInt8→Option (List UInt8)
 | []=>some out
 | c :: t => if c = 35 then
     (match t with
       | x::y::u=>if hexD x<0∨hexD y<0 then none else zbA (out++[UInt8.ofNat (16 * hexD x+hexD y).toNat]) u
       | _=>none)
   else zbA (out++[c]) t
def zfK (w:List UInt8):Option (List UInt8):=match zbA [] w with|none=>none|some o=>if 127<o.length∨(0:UInt8)∈o then none else some o
structure Tk where
 kind:Int
 vk:Int:=0
 vn:Int:=0
 vs:List UInt8:=[]
 s:List UInt8:=[]
deriving DecidableEq
def zbb (last:Bool):Int:=if last then 10 else 6
def tokV (last:Bool) (c:UInt8) (t:List UInt8):Int×Tk×List UInt8 :=
 if isRg c=true then
   (let w:=(c::t).takeWhile isRg;let r:=(c::t).dropWhile isRg
    if r=[]∧last=false then (6,{ kind:=0 },[])
    else if isDg c=true∨c=43∨c=45∨c=46 then ((zaF w).2.2,{ kind:=1,vk:=(zaF w).1,vn:=(zaF w).2.1 },r)
    else (0,{ kind:=6,s:=w },r))
 else if c=91 then (0,{ kind:=2 },t)
 else if c=93 then (0,{ kind:=3 },t)
 else if c=60 then
   (match t with
     | []=>(zbb last,{ kind:=0 },[])
     | d :: u => if d = 60 then (0, { kind := 4 }, u) else
       (match hexV [] (-1) (d::u) with
         | (e,x,r)=>if e=0 then (0,{ kind:=1,vk:=4,vs:=x },r) else if e=1 then (zbb last,{ kind:=0 },[]) else (11,{ kind:=0 },[])))
 else if c=62 then
   (match t with
     | []=>(if last then 11 else 6,{ kind:=0 },[])
     | d::u=>if d=62 then (0,{ kind:=5 },u) else (11,{ kind:=0 },[]))
 else if c=40 then
   (match zaX last 1 [] t with
     | none=>(zbb last,{ kind:=0 },[])
     | some (x,r)=>(0,{ kind:=1,vk:=4,vs:=x },r))
 else if c=47 then
   (let w:=t.takeWhile isRg;let r:=t.dropWhile isRg
    if r=[]∧last=false then (6,{ kind:=0 },[])
    else match zfK w with
     | none=>(17,{ kind:=0 },[])
     | some o=>(0,{ kind:=1,vk:=5,vs:=o },r))
 else (11,{ kind:=0 },[])
def zae (bs:List UInt8) (k:Int) (last:Bool):Tk×Int×Int×Int :=
 if k<0∨(bs.length:Int)<k then ({ kind:=0 },0,0,2)
 else
   (let f:=zaW bs k
    match bs.drop f with
     | []=>({ kind:=0 },(f:Int),(f:Int),if last then 0 else 6)
     | c::t =>
       (match tokV last c t with
         | (e,x,r)=>if e=0 then (x,(f:Int),(bs.length:Int)-(r.length:Int),0) else ({ kind:=0 },(f:Int),(f:Int),e)))
theorem zdv:∀(b:Bool) (l:List UInt8),zaP false (l.drop (zaP b l))=0
 | _,[]=>by simp [zaP]
 | true, c :: l => by
   simp only [zaP]
   rw [Nat.add_comm,List.drop_succ_cons];exact zdv _ l
 | false, c :: l => by
   by_cases h:c=37
   · rw [zaP,if_pos h,Nat.add_comm,List.drop_succ_cons];exact zdv _ l
   · by_cases h2:isSp c=true
     · rw [zaP,if_neg h,if_pos h2,Nat.add_comm,List.drop_succ_cons];exact zdv _ l
     · rw [zaP,if_neg h,if_neg h2,List.drop_zero,zaP,if_neg h,if_neg h2]
theorem zfC {bs:List UInt8} {k:Int} (h:0≤k) (h2:k≤bs.length):k≤(zaW bs k:Nat)∧zaW bs k≤bs.length:=by
 unfold zaW
 rw [if_neg (by omega)]
 split
 · omega
 · have:=zeg false (bs.drop k.toNat)
   rw [List.length_drop] at this;omega
theorem skipV_idem {bs:List UInt8} {k:Int} (h:0≤k) (h2:k≤bs.length):zaW bs (zaW bs k:Nat)=zaW bs k:=by
 have hb:=zfC h h2
 by_cases h3:(bs.length:Int)≤(zaW bs k:Nat)
 · have e : zaW bs k = bs.length := by omega
   rw [e];unfold zaW;rw [if_neg (by omega),if_pos (by omega)]
 · have e:zaW bs k=k.toNat+zaP false (bs.drop k.toNat):=by
     unfold zaW
     rw [if_neg (by omega),if_neg (by omega)]
   have e3:zaP false (bs.drop (zaW bs k))=0:=by
     rw [e,←List.drop_drop]
     exact zdv false _
   have gen : ∀ f : Nat, ¬ (bs.length : Int) ≤ (f : Int) → zaP false (bs.drop f) = 0 → zaW bs (f : Int) = f := fun f h1 h2 => by
     unfold zaW
     rw [if_neg (by omega),if_neg h1,Int.toNat_natCast,h2];rfl
   exact gen _ h3 e3
theorem zdy:∀(b:Bool) (l u:List UInt8),zaP b l<l.length→zaP b (l++u)=zaP b l
 | _,[],u=>by simp
 | true, c :: l, u => by
   intro h
   simp only [zaP,List.cons_append,List.length_cons] at h ⊢
   rw [zdy _ l u (by omega)]
 | false, c :: l, u => by
   intro h
   rw [List.cons_append]
   by_cases h1:c=37
   · rw [zaP,if_pos h1] at h ⊢
     rw [zaP,if_pos h1,zdy _ l u (by simp at h;omega)]
   · by_cases h2:isSp c=true
     · rw [zaP,if_neg h1,if_pos h2] at h ⊢
       rw [zaP,if_neg h1,if_pos h2,zdy _ l u (by simp at h;omega)]
     · rw [zaP,if_neg h1,if_neg h2,zaP,if_neg h1,if_neg h2]
theorem zg5 {t u:List UInt8} {last:Bool} {k:Nat} (h:zdE false t=some k):zdE last (t++u)=some k∧k≤t.length:=by
 cases t with
 | nil=>simp [zdE] at h
 | cons d t =>
   simp only [zdE,List.cons_append,Option.some.injEq,List.length_cons] at h ⊢
   refine ⟨h,?_⟩
   subst h;split<;>omega
theorem octV_more {c:UInt8} {t u:List UInt8} {last:Bool} {x:Nat×Nat} (h:octV false c t=some x):octV last c (t++u)=some x∧x.2≤t.length+1:=by
 rcases t with _|⟨d,_|⟨e,t⟩⟩
 · simp [octV] at h
 · by_cases hd:isOc d=true
   · simp [octV,hd] at h
   · simp only [octV,List.cons_append,if_neg hd] at h ⊢
     refine ⟨h,?_⟩
     cases h;simp
 · by_cases hd:isOc d=true
   · simp only [octV,List.cons_append,if_pos hd] at h ⊢
     refine ⟨h,?_⟩
     split at h<;>(cases h;simp)
   · simp only [octV,List.cons_append,if_neg hd] at h ⊢
     refine ⟨h,?_⟩
     cases h;simp
theorem escV_more {t u:List UInt8} {last:Bool} {x:List UInt8×Nat} (h:escV false t=some x):escV last (t++u)=some x∧x.2≤t.length:=by
 cases t with
 | nil=>simp [escV] at h
 | cons c t =>
   rw [List.cons_append]
   unfold escV at h ⊢
   simp only [List.length_cons] at h ⊢
   by_cases h1:c=110
   · rw [if_pos h1] at h ⊢;refine ⟨h,?_⟩;cases h;simp
   rw [if_neg h1] at h ⊢
   by_cases h2:c=114
   · rw [if_pos h2] at h ⊢;refine ⟨h,?_⟩;cases h;simp
   rw [if_neg h2] at h ⊢
   by_cases h3:c=116
   · rw [if_pos h3] at h ⊢;refine ⟨h,?_⟩;cases h;simp
   rw [if_neg h3] at h ⊢
   by_cases h4:c=98
   · rw [if_pos h4] at h ⊢;refine ⟨h,?_⟩;cases h;simp
   rw [if_neg h4] at h ⊢
   by_cases h5:c=102
   · rw [if_pos h5] at h ⊢;refine ⟨h,?_⟩;cases h;simp
   rw [if_neg h5] at h ⊢
   by_cases h6:isOc c=true
   · rw [if_pos h6] at h ⊢
     obtain ⟨y,hy,rfl⟩:=Option.map_eq_some_iff.1 h
     obtain ⟨h7,h8⟩:=octV_more (u:=u) (last:=last) hy
     rw [h7]
     exact ⟨rfl,h8⟩
   rw [if_neg h6] at h ⊢
   by_cases h7:c=10
   · rw [if_pos h7] at h ⊢;refine ⟨h,?_⟩;cases h;simp
   rw [if_neg h7] at h ⊢
   by_cases h8:c=13
   · rw [if_pos h8] at h ⊢
     obtain ⟨y,hy,rfl⟩:=Option.map_eq_some_iff.1 h
     obtain ⟨h7,h8⟩:=zg5 (u:=u) (last:=last) hy
     rw [h7]
     exact ⟨rfl,by simp;omega⟩
   rw [if_neg h8] at h ⊢
   refine ⟨h,?_⟩;cases h;simp
theorem textV_more (last:Bool) (u:List UInt8):∀(n:Nat) (l:List UInt8),l.length≤n→∀(deep:Nat) (out x r:List UInt8),zaX false deep out l=some (x,r)→zaX last deep out (l++u)=some (x,r++u)∧r.length<l.length:=by
 intro n
 induction n with
 | zero =>
   intro l hl deep out x r h
   obtain rfl:l=[]:=List.eq_nil_of_length_eq_zero (by omega)
   rw [zaX] at h;cases h
 | succ n ih =>
   intro l hl deep out x r h
   cases l with
   | nil=>rw [zaX] at h;cases h
   | cons c t =>
     simp only [List.length_cons] at hl ⊢
     rw [List.cons_append]
     rw [zaX.eq_def] at h ⊢
     simp only at h ⊢
     by_cases h1:c=92
     · rw [if_pos h1] at h ⊢
       cases he:escV false t with
       | none=>rw [he] at h;cases h
       | some y =>
         obtain ⟨a,k⟩:=y
         rw [he] at h
         obtain ⟨h7,h8⟩:=escV_more (u:=u) (last:=last) he
         rw [h7]
         simp only at h h8 ⊢
         obtain ⟨g1,g2⟩:=ih (t.drop k) (by rw [List.length_drop];omega) _ _ _ _ h
         rw [List.drop_append_of_le_length h8]
         rw [List.length_drop] at g2
         exact ⟨g1,by omega⟩
     rw [if_neg h1] at h ⊢
     by_cases h2:c=13
     · rw [if_pos h2] at h ⊢
       cases he:zdE false t with
       | none=>rw [he] at h;cases h
       | some k =>
         rw [he] at h
         obtain ⟨h7,h8⟩:=zg5 (u:=u) (last:=last) he
         rw [h7]
         simp only at h ⊢
         obtain ⟨g1,g2⟩:=ih (t.drop k) (by rw [List.length_drop];omega) _ _ _ _ h
         rw [List.drop_append_of_le_length h8]
         rw [List.length_drop] at g2
         exact ⟨g1,by omega⟩
     rw [if_neg h2] at h ⊢
     by_cases h3:c=40
     · rw [if_pos h3] at h ⊢
       obtain ⟨g1,g2⟩:=ih t (by omega) _ _ _ _ h
       exact ⟨g1,by omega⟩
     rw [if_neg h3] at h ⊢
     by_cases h4:c=41
     · rw [if_pos h4] at h ⊢
       by_cases h5:deep=1
       · rw [if_pos h5] at h ⊢
         cases h
         exact ⟨rfl,by omega⟩
       · rw [if_neg h5] at h ⊢
         obtain ⟨g1,g2⟩:=ih t (by omega) _ _ _ _ h
         exact ⟨g1,by omega⟩
     rw [if_neg h4] at h ⊢
     obtain ⟨g1,g2⟩:=ih t (by omega) _ _ _ _ h
     exact ⟨g1,by omega⟩
theorem zdf (u:List UInt8):∀(l:List UInt8) (out:List UInt8) (half:Int),((hexV out half l).1=0→hexV out half (l++u)=(0,(hexV out half l).2.1,(hexV out half l).2.2++u)∧(hexV out half l).2.2.length<l.length) ∧
   ((hexV out half l).1≠0→(hexV out half l).1≠1→(hexV out half l).1=11∧hexV out half (l++u)=(11,[],[]))
 | [],out,half=>by simp [hexV]
 | c :: t, out, half => by
   rw [List.cons_append]
   simp only [hexV,List.length_cons]
   by_cases h1:c=62
   · simp only [if_pos h1]
     exact ⟨fun _=>⟨by simp,by omega⟩,fun h=>absurd rfl h⟩
   simp only [if_neg h1]
   by_cases h2:isSp c=true
   · simp only [if_pos h2]
     obtain ⟨g1,g2⟩:=zdf u t out half
     exact ⟨fun h=>⟨(g1 h).1,by have:=(g1 h).2;omega⟩,g2⟩
   simp only [if_neg h2]
   by_cases h3:hexD c<0
   · simp only [if_pos h3]
     exact ⟨fun h=>by simp at h,fun _ _=>⟨by simp,by simp⟩⟩
   simp only [if_neg h3]
   by_cases h4:half<0
   · simp only [if_pos h4]
     obtain ⟨g1,g2⟩:=zdf u t out (hexD c)
     exact ⟨fun h=>⟨(g1 h).1,by have:=(g1 h).2;omega⟩,g2⟩
   simp only [if_neg h4]
   obtain ⟨g1,g2⟩:=zdf u t (out++[UInt8.ofNat (16 * half+hexD c).toNat]) (-1)
   exact ⟨fun h=>⟨(g1 h).1,by have:=(g1 h).2;omega⟩,g2⟩
theorem zfy:∀(l:List UInt8) (out:List UInt8) (half:Int),(hexV out half l).1=0∨(hexV out half l).1=1∨(hexV out half l).1=11
 | [],out,half=>by simp [hexV]
 | c :: t, out, half => by
   simp only [hexV]
   split
   · exact .inl rfl
   · split
     · exact zfy t _ _
     · split
       · exact .inr (.inr rfl)
       · split
         · exact zfy t _ _
         · exact zfy t _ _
theorem ze9 (p:UInt8→Bool) (u:List UInt8):∀(l:List UInt8),l.dropWhile p≠[]→(l++u).takeWhile p=l.takeWhile p∧(l++u).dropWhile p=l.dropWhile p++u
 | []=>by simp
 | c :: t => by
   intro h
   rw [List.cons_append]
   by_cases hp:p c=true
   · rw [List.dropWhile_cons_of_pos hp] at h
     obtain ⟨g1,g2⟩:=ze9 p u t h
     rw [List.takeWhile_cons_of_pos hp,List.dropWhile_cons_of_pos hp,List.takeWhile_cons_of_pos hp,List.dropWhile_cons_of_pos hp,g1,g2]
     exact ⟨rfl,rfl⟩
   · rw [List.takeWhile_cons_of_neg hp,List.dropWhile_cons_of_neg hp,List.takeWhile_cons_of_neg hp,List.dropWhile_cons_of_neg hp]
     exact ⟨rfl,rfl⟩
theorem drop_len (p:UInt8→Bool) (l:List UInt8):(l.dropWhile p).length≤l.length:=List.Sublist.length_le (List.dropWhile_sublist _)
theorem tokV_more (last:Bool) (c:UInt8) (t u:List UInt8) :
   ((tokV false c t).1=0→tokV last c (t++u)=(0,(tokV false c t).2.1,(tokV false c t).2.2++u))∧((tokV false c t).1≠0→(tokV false c t).1≠6→(tokV last c (t++u)).1=(tokV false c t).1):=by
 by_cases hr:isRg c=true
 · have hc:tokV false c t=if (c::t).dropWhile isRg=[]∧false=false then (6,{ kind:=0 },[]) else if isDg c=true∨c=43∨c=45∨c=46 then ((zaF ((c::t).takeWhile isRg)).2.2,{ kind:=1,vk:=(zaF ((c::t).takeWhile isRg)).1,vn:=(zaF ((c::t).takeWhile isRg)).2.1 },(c::t).dropWhile isRg) else (0,{ kind:=6,s:=(c::t).takeWhile isRg },(c::t).dropWhile isRg):=by
     unfold tokV;rw [if_pos hr]
   have hc2:tokV last c (t++u)=if (c::(t++u)).dropWhile isRg=[]∧last=false then (6,{ kind:=0 },[]) else if isDg c=true∨c=43∨c=45∨c=46 then ((zaF ((c::(t++u)).takeWhile isRg)).2.2,{ kind:=1,vk:=(zaF ((c::(t++u)).takeWhile isRg)).1,vn:=(zaF ((c::(t++u)).takeWhile isRg)).2.1 },(c::(t++u)).dropWhile isRg) else (0,{ kind:=6,s:=(c::(t++u)).takeWhile isRg },(c::(t++u)).dropWhile isRg):=by
     unfold tokV;rw [if_pos hr]
   by_cases h0:(c::t).dropWhile isRg=[]
   · rw [hc,if_pos ⟨h0,rfl⟩]
     exact ⟨fun h=>by simp at h,fun _ h=>absurd rfl h⟩
   · obtain ⟨g1,g2⟩:=ze9 isRg u _ h0
     rw [List.cons_append] at g1 g2
     rw [hc,hc2,g1,g2,if_neg (show ¬((c::t).dropWhile isRg=[]∧false=false) from fun h=>h0 h.1),if_neg (show ¬((c::t).dropWhile isRg++u=[]∧last=false) from fun h=>h0 (List.append_eq_nil_iff.1 h.1).1)]
     by_cases hd:isDg c=true∨c=43∨c=45∨c=46
     · rw [if_pos hd,if_pos hd]
       exact ⟨fun h=>by rw [show (zaF (List.takeWhile isRg (c::t))).2.2=0 from h],fun _ _=>rfl⟩
     · rw [if_neg hd,if_neg hd]
       exact ⟨fun _=>rfl,fun _ _=>rfl⟩
 · unfold tokV
   rw [if_neg hr,if_neg hr]
   by_cases h1:c=91
   · rw [if_pos h1,if_pos h1];exact ⟨fun _=>rfl,fun _ _=>rfl⟩
   rw [if_neg h1,if_neg h1]
   by_cases h2:c=93
   · rw [if_pos h2,if_pos h2];exact ⟨fun _=>rfl,fun _ _=>rfl⟩
   rw [if_neg h2,if_neg h2]
   by_cases h3:c=60
   · rw [if_pos h3,if_pos h3]
     cases t with
     | nil=>exact ⟨fun h=>by simp [zbb] at h,fun _ h=>by simp [zbb] at h⟩
     | cons d t =>
       simp only [List.cons_append]
       by_cases hd:d=60
       · rw [if_pos hd,if_pos hd];exact ⟨fun _=>rfl,fun _ _=>rfl⟩
       rw [if_neg hd,if_neg hd]
       obtain ⟨g1,g2⟩:=zdf u (d::t) [] (-1)
       have g3:=zfy (d::t) [] (-1)
       rw [List.cons_append] at g1 g2
       obtain ⟨H,hH⟩:∃H,hexV [] (-1) (d::t)=H:=⟨_,rfl⟩
       rw [hH] at g1 g2 g3 ⊢
       obtain ⟨e,x,r⟩:=H
       simp only at g1 g2 g3 ⊢
       rcases g3 with rfl|rfl|rfl
       · rw [(g1 rfl).1,if_pos rfl]
         exact ⟨fun _=>rfl,fun h=>absurd rfl h⟩
       · rw [if_neg (by decide), if_pos rfl]
         exact ⟨fun h=>by simp [zbb] at h,fun _ h=>by simp [zbb] at h⟩
       · rw [(g2 (by decide) (by decide)).2, if_neg (by decide), if_neg (by decide)]
         exact ⟨fun h=>by simp at h,fun _ _=>rfl⟩
   rw [if_neg h3,if_neg h3]
   by_cases h4:c=62
   · rw [if_pos h4,if_pos h4]
     cases t with
     | nil=>exact ⟨fun h=>by simp at h,fun _ h=>by simp at h⟩
     | cons d t =>
       simp only [List.cons_append]
       by_cases hd:d=62
       · rw [if_pos hd,if_pos hd];exact ⟨fun _=>rfl,fun _ _=>rfl⟩
       · rw [if_neg hd,if_neg hd];exact ⟨fun h=>by simp at h,fun _ _=>rfl⟩
   rw [if_neg h4,if_neg h4]
   by_cases h5:c=40
   · rw [if_pos h5,if_pos h5]
     cases he:zaX false 1 [] t with
     | none=>exact ⟨fun h=>by simp [zbb] at h,fun _ h=>by simp [zbb] at h⟩
     | some y =>
       obtain ⟨x,r⟩:=y
       rw [(textV_more last u _ t (Nat.le_refl _) _ _ _ _ he).1]
       exact ⟨fun _=>rfl,fun h=>absurd rfl h⟩
   rw [if_neg h5,if_neg h5]
   by_cases h6:c=47
   · rw [if_pos h6,if_pos h6]
     simp only
     by_cases h0:t.dropWhile isRg=[]
     · rw [if_pos (show t.dropWhile isRg=[]∧True from ⟨h0,trivial⟩)]
       exact ⟨fun h=>by simp at h,fun _ h=>absurd rfl h⟩
     · obtain ⟨g1,g2⟩:=ze9 isRg u _ h0
       rw [g1,g2,if_neg (fun h=>h0 h.1),if_neg (fun h=>h0 (List.append_eq_nil_iff.1 h.1).1)]
       cases zfK (t.takeWhile isRg) with
       | none=>exact ⟨fun h=>by simp at h,fun _ _=>rfl⟩
       | some o=>exact ⟨fun _=>rfl,fun _ _=>rfl⟩
   rw [if_neg h6,if_neg h6]
   exact ⟨fun h=>by simp at h,fun _ _=>rfl⟩
theorem textV_len (last:Bool):∀(n:Nat) (l:List UInt8),l.length≤n→∀(deep:Nat) (out x r:List UInt8),zaX last deep out l=some (x,r)→r.length<l.length:=by
 intro n
 induction n with
 | zero =>
   intro l hl deep out x r h
   obtain rfl:l=[]:=List.eq_nil_of_length_eq_zero (by omega)
   rw [zaX] at h;cases h
 | succ n ih =>
   intro l hl deep out x r h
   cases l with
   | nil=>rw [zaX] at h;cases h
   | cons c t =>
     simp only [List.length_cons] at hl ⊢
     rw [zaX.eq_def] at h
     simp only at h
     split at h
     · split at h
       · cases h
       · have := ih _ (by rw [List.length_drop]; omega) _ _ _ _ h
         rw [List.length_drop] at this;omega
     · split at h
       · split at h
         · cases h
         · have := ih _ (by rw [List.length_drop]; omega) _ _ _ _ h
           rw [List.length_drop] at this;omega
       · split at h
         · have := ih _ (by omega) _ _ _ _ h
           omega
         · split at h
           · split at h
             · cases h;omega
             · have := ih _ (by omega) _ _ _ _ h
               omega
           · have := ih _ (by omega) _ _ _ _ h
             omega
theorem tokV_some (last:Bool) (c:UInt8) (t:List UInt8) (h:(tokV last c t).1=0):(tokV last c t).2.1.kind≠0∧(tokV last c t).2.2.length≤t.length:=by
 obtain ⟨V,hV⟩:∃V,tokV last c t=V:=⟨_,rfl⟩
 rw [hV] at h ⊢
 unfold tokV at hV
 split at hV
 · next hr =>
   have hd:((c::t).dropWhile isRg).length≤t.length:=by rw [List.dropWhile_cons_of_pos hr];exact drop_len _ _
   simp only at hV
   split at hV
   · subst hV;simp at h
   · split at hV
     · subst hV;exact ⟨by simp,hd⟩
     · subst hV;exact ⟨by simp,hd⟩
 split at hV
 · subst hV;exact ⟨by simp,Nat.le_refl _⟩
 split at hV
 · subst hV;exact ⟨by simp,Nat.le_refl _⟩
 split at hV
 · cases t with
   | nil=>subst hV;cases last<;>simp [zbb] at h
   | cons d t =>
     simp only at hV
     split at hV
     · subst hV;exact ⟨by simp,by simp⟩
     · have hx:=(zdf [] (d::t) [] (-1)).1
       split at hV
       · subst hV
         exact ⟨by simp,Nat.le_of_lt (hx ‹_›).2⟩
       · split at hV
         · subst hV;cases last<;>simp [zbb] at h
         · subst hV;simp at h
 split at hV
 · cases t with
   | nil=>subst hV;cases last<;>simp at h
   | cons d t =>
     simp only at hV
     split at hV
     · subst hV;exact ⟨by simp,by simp⟩
     · subst hV;simp at h
 split at hV
 · cases he:zaX last 1 [] t with
   | none=>rw [he] at hV;subst hV;cases last<;>simp [zbb] at h
   | some y =>
     obtain ⟨x,r⟩:=y
     rw [he] at hV
     subst hV
     exact ⟨by simp,by have:=textV_len last _ t (Nat.le_refl _) _ _ _ _ he;simp only;omega⟩
 split at hV
 · simp only at hV
   split at hV
   · subst hV;simp at h
   · split at hV
     · subst hV;simp at h
     · subst hV;exact ⟨by simp,drop_len _ _⟩
 · subst hV;simp at h
def nextF (bs:List UInt8) (f:Nat) (last:Bool):Tk×Int×Int×Int :=
 match bs.drop f with
 | []=>({ kind:=0 },(f:Int),(f:Int),if last then 0 else 6)
 | c::t=>if (tokV last c t).1=0 then ((tokV last c t).2.1,(f:Int),(bs.length:Int)-((tokV last c t).2.2.length:Int),0) else ({ kind:=0 },(f:Int),(f:Int),(tokV last c t).1)
theorem zcZ {bs:List UInt8} {k:Int} (last:Bool) (h:0≤k) (h2:k≤bs.length):zae bs k last=nextF bs (zaW bs k) last:=by
 have h3:¬(k<0∨(bs.length:Int)<k):=by omega
 unfold zae
 rw [if_neg h3]
 show (match bs.drop (zaW bs k) with | []=>_|c::t=>_)=_
 unfold nextF
 cases bs.drop (zaW bs k)<;>rfl
theorem zeh {bs:List UInt8} {f:Nat} (last:Bool) (h:bs.drop f=[]):nextF bs f last=({ kind:=0 },(f:Int),(f:Int),if last then 0 else 6):=by unfold nextF;rw [h]
theorem zb8 {bs:List UInt8} {f:Nat} (last:Bool) {c:UInt8} {t:List UInt8} (h:bs.drop f=c::t):nextF bs f last=if (tokV last c t).1=0 then ((tokV last c t).2.1,(f:Int),(bs.length:Int)-((tokV last c t).2.2.length:Int),0) else ({ kind:=0 },(f:Int),(f:Int),(tokV last c t).1):=by unfold nextF;rw [h]
theorem nextV_places {bs:List UInt8} {k:Int} (last:Bool) (h:0≤k) (h2:k≤bs.length) :
   ((zae bs k last).2.2.2≠0→(zae bs k last).1={ kind:=0 }∧(zae bs k last).2.1=(zae bs k last).2.2.1∧k≤(zae bs k last).2.1∧(zae bs k last).2.1≤bs.length) ∧
   ((zae bs k last).2.2.2=0→(zae bs k last).1.kind=0→last=true∧(zae bs k last).2.1=bs.length∧(zae bs k last).2.2.1=bs.length) ∧
   ((zae bs k last).2.2.2=0→(zae bs k last).1.kind≠0→zae bs (zae bs k last).2.1 last=zae bs k last∧k≤(zae bs k last).2.1∧(zae bs k last).2.1<(zae bs k last).2.2.1∧(zae bs k last).2.2.1≤bs.length):=by
 obtain ⟨hb1,hb2⟩:=zfC h h2
 have hi:=skipV_idem h h2
 have hV:=zcZ (bs:=bs) last h h2
 have hV2:=zcZ (bs:=bs) (k:=(zaW bs k:Nat)) last (by omega) (by omega)
 rw [hi] at hV2
 generalize zaW bs k=f at *
 rw [hV]
 cases hd:bs.drop f with
 | nil =>
   have hn:=zeh last hd
   rw [hn] at hV2 ⊢
   have hfl:f=bs.length:=by have:=List.drop_eq_nil_iff.1 hd;omega
   refine ⟨fun _=>⟨rfl,rfl,hb1,by simp only;omega⟩,fun h0 _=>⟨?_,by simp only;omega,by simp only;omega⟩,fun _ h=>absurd rfl h⟩
   cases last
   · simp at h0
   · rfl
 | cons c t =>
   have hn:=zb8 last hd
   have hlen:f+(t.length+1)=bs.length:=by
     have:=congrArg List.length hd
     rw [List.length_drop,List.length_cons] at this;omega
   by_cases h0:(tokV last c t).1=0
   · obtain ⟨g1,g2⟩:=tokV_some last c t h0
     rw [if_pos h0] at hn
     rw [hn] at hV2 ⊢
     generalize tokV last c t=T at *
     obtain ⟨e,x,r⟩:=T
     simp only at g1 g2 hV2 ⊢
     exact ⟨fun h=>absurd rfl h,fun _ h=>absurd h g1,fun _ _=>⟨hV2,hb1,by omega,by omega⟩⟩
   · rw [if_neg h0] at hn
     rw [hn]
     exact ⟨fun _=>⟨rfl,rfl,hb1,by simp only;omega⟩,fun h=>absurd h h0,fun h=>absurd h h0⟩
theorem nextV_gen {l:List UInt8} (u:List UInt8) (la:Bool) {k:Int} (h:0≤k) (hk:k≤l.length) (h6:(zae l k false).2.2.2≠6):zae (l++u) k la=zae l k false:=by
 obtain ⟨hb1,hb2⟩:=zfC h hk
 have hV:=zcZ (bs:=l) false h hk
 have hV2:=zcZ (bs:=l++u) la h (by rw [List.length_append];omega)
 by_cases hl:zaW l k=l.length
 · exfalso;apply h6
   rw [hV,hl,zeh false (by simp)]
   rfl
 · have hkl : k < l.length := by omega
   have e:zaW l k=k.toNat+zaP false (l.drop k.toNat):=by
     unfold zaW;rw [if_neg (by omega),if_neg (by omega)]
   have e2:zaW (l++u) k=zaW l k:=by
     rw [e];unfold zaW
     rw [if_neg (by omega),if_neg (by rw [List.length_append];omega),List.drop_append_of_le_length (by omega),zdy _ _ _ (by rw [List.length_drop];omega)]
   rw [e2] at hV2
   rw [hV] at h6
   rw [hV,hV2]
   clear hV hV2 e e2
   generalize zaW l k=f at *
   cases hd:l.drop f with
   | nil=>have:=List.drop_eq_nil_iff.1 hd;omega
   | cons c t =>
     have hd2:(l++u).drop f=c::(t++u):=by rw [List.drop_append_of_le_length (by omega),hd];rfl
     have hn:=zb8 false hd
     rw [zb8 la hd2,hn]
     rw [hn] at h6
     obtain ⟨g1,g2⟩:=tokV_more la c t u
     by_cases h0:(tokV false c t).1=0
     · rw [g1 h0,if_pos rfl,if_pos h0]
       simp only
       rw [List.length_append,List.length_append]
       congr 3;omega
     · rw [if_neg h0] at h6
       have g3:=g2 h0 h6
       rw [if_neg (by rw [g3];exact h0),if_neg h0,g3]
theorem nextV_stays {bs:List UInt8} {n:Nat} {k:Int} (last:Bool) (h:0≤k) (h2:k≤n) (hn:n≤bs.length) (h6:(zae (bs.take n) k false).2.2.2≠6):zae bs k last=zae (bs.take n) k false∧zae (bs.take n) k true=zae (bs.take n) k false:=by
 have hk:k≤(bs.take n).length:=by rw [List.length_take];omega
 refine ⟨?_,?_⟩
 · have:=nextV_gen (l:=bs.take n) (bs.drop n) last h hk h6
   rwa [List.take_append_drop] at this
 · have:=nextV_gen (l:=bs.take n) [] true h hk h6
   rwa [List.append_nil] at this
inductive PV where
 | mk (kind n:Int) (s:List UInt8) (l:List PV)
def PV.kind:PV→Int | .mk k _ _ _=>k
def PV.n:PV→Int | .mk _ n _ _=>n
def PV.s:PV→List UInt8 | .mk _ _ s _=>s
def PV.l:PV→List PV | .mk _ _ _ l=>l
def PV.none:PV:=.mk 0 0 [] []
instance:Inhabited PV:=⟨PV.none⟩
structure Lv where
 dict:Bool
 l:List PV
def zdd (v:Lv):Bool:=v.dict&&v.l.length % 2==0
def topW:List Lv→Bool
 | []=>false
 | v::_=>zdd v
def zaH (t:Tk):Bool:=t.kind==1&&t.vk==2
def moreV (e:Int):Int:=if e=6 then 6 else 0
def tkV (t:Tk):PV:=.mk t.vk t.vn t.vs []
def refV (bs:List UInt8) (last:Bool) (at_:Int) (v:PV):PV×Int×Int :=
 let g:=zae bs at_ last
 if g.2.2.2≠0∨zaH g.1=false then (v,at_,moreV g.2.2.2) else
 let r:=zae bs g.2.2.1 last
 if r.2.2.2≠0∨r.1.kind≠6∨r.1.s≠[82] then (v,at_,moreV r.2.2.2) else
 if v.n<1∨4096<v.n∨g.1.vn≠0 then (v,at_,26) else (.mk 8 v.n [] [],r.2.2.1,0)
def zeM (w:List UInt8):Option PV :=
 if w=[116,114,117,101] then some (.mk 1 1 [] []) else if w=[102,97,108,115,101] then some (.mk 1 0 [] []) else if w=[110,117,108,108] then some PV.none else none
def zao (bs:List UInt8) (last:Bool) (st:List Lv) (at_:Int) (t:Tk):PV×Int×Int :=
 if topW st=true∧(t.kind≠1∨t.vk≠5) then (PV.none,at_,11)
 else if t.kind=6 then (match zeM t.s with|none=>(PV.none,at_,11)|some v=>(v,at_,0))
 else if zaH t=true then refV bs last at_ (tkV t)
 else (tkV t,at_,0)
def zch (st:List Lv) (dict:Bool):List Lv×Int:=if topW st=true then (st,11) else if 64≤st.length then (st,15) else ({ dict:=dict,l:=[] }::st,0)
def twoV:List PV→List (PV×PV)
 | a::b::l=>(a,b)::twoV l
 | _=>[]
def zb5:List (PV×PV)→List PV
 | []=>[]
 | (a,b)::l=>a::b::zb5 l
def sLt:List UInt8→List UInt8→Bool
 | [],[]=>false
 | [],_::_=>true
 | _::_,[]=>false
 | a::l,b::m=>if a.toNat<b.toNat then true else if b.toNat<a.toNat then false else sLt l m
def insV (x:PV×PV):List (PV×PV)→List (PV×PV)
 | []=>[x]
 | y::l=>if sLt y.1.s x.1.s then y::insV x l else x::y::l
def zd1:List (PV×PV)→List (PV×PV)
 | []=>[]
 | x::l=>insV x (zd1 l)
def zb0:List (PV×PV)→Bool
 | x::y::l=>x.1.s==y.1.s||zb0 (y::l)
 | _=>false
def zcJ (l:List PV):Option (List PV):=if zb0 (zd1 (twoV l))=true then none else some (zb5 (zd1 (twoV l)))
def zbr (st:List Lv) (dict:Bool):PV×List Lv×Int :=
 match st with
 | []=>(PV.none,st,11)
 | v::rest =>
   if v.dict≠dict∨(dict=true∧zdd v=false) then (PV.none,st,11)
   else if dict=false then (.mk 6 0 [] v.l,rest,0)
   else match zcJ v.l with
     | none=>(PV.none,st,16)
     | some l=>(.mk 7 0 [] l,rest,0)
def zau (bs:List UInt8) (last:Bool) (st:List Lv) (at_:Int) (t:Tk):Option PV×List Lv×Int×Int :=
 if t.kind=0 then (none,st,at_,10)
 else if t.kind=2∨t.kind=4 then (none,(zch st (t.kind==4)).1,at_,(zch st (t.kind==4)).2)
 else if t.kind=3∨t.kind=5 then
   (let r:=zbr st (t.kind==5)
    if r.2.2=0 then (some r.1,r.2.1,at_,0) else (none,r.2.1,at_,r.2.2))
 else
   (let r:=zao bs last st at_ t
    if r.2.2≠0 then (none,st,r.2.1,r.2.2) else if 64≤st.length then (none,st,r.2.1,15) else (some r.1,st,r.2.1,0))
def valO (bs:List UInt8) (last:Bool):Nat→List Lv→Int→Option (PV×Int×Int)
 | 0,_,_=>none
 | g+1,st,at_ =>
   let t:=zae bs at_ last
   if t.2.2.2≠0 then some (PV.none,0,t.2.2.2) else
   match zau bs last st t.2.2.1 t.1 with
   | (v,st2,at2,e) =>
     if e≠0 then some (PV.none,0,e) else
     match v with
     | none=>valO bs last g st2 at2
     | some x => match st2 with
       | []=>some (x,at2,0)
       | top::rest=>valO bs last g ({ top with l:=top.l++[x] }::rest) at2
theorem zaR {bs:List UInt8} {k:Int} (last:Bool) (h:0≤k) (h2:k≤bs.length):k≤(zae bs k last).2.2.1∧(zae bs k last).2.2.1≤bs.length:=by
 rw [zcZ last h h2]
 have hs:=zfC h h2
 cases hd:bs.drop (zaW bs k) with
 | nil=>rw [zeh last hd];exact ⟨hs.1,by have:=hs.2;show ((zaW bs k:Nat):Int)≤_;omega⟩
 | cons c t =>
   rw [zb8 last hd]
   have hl:(bs.drop (zaW bs k)).length=t.length+1:=by rw [hd];rfl
   rw [List.length_drop] at hl
   split
   · rename_i h0
     have:=(tokV_some last c t h0).2
     exact ⟨by show k≤(bs.length:Int)-_;omega,by show (bs.length:Int)-_≤_;omega⟩
   · exact ⟨hs.1,by have:=hs.2;show ((zaW bs k:Nat):Int)≤_;omega⟩
structure Same3 (bs:List UInt8) (n:Nat) (last:Bool) (k:Int):Prop where
 a:zae bs k last=zae (bs.take n) k false
 b:zae (bs.take n) k true=zae (bs.take n) k false
 lo:k≤(zae (bs.take n) k false).2.2.1
 hi:(zae (bs.take n) k false).2.2.1≤n
theorem same3 {bs:List UInt8} {n:Nat} (last:Bool) {k:Int} (h:0≤k) (h2:k≤n) (hn:n≤bs.length) (h6:(zae (bs.take n) k false).2.2.2≠6):Same3 bs n last k:=by
 obtain ⟨p,q⟩:=nextV_stays last h h2 hn h6
 have hl:(bs.take n).length=n:=by rw [List.length_take];omega
 obtain ⟨r,s⟩:=zaR (bs:=bs.take n) (k:=k) false h (by omega)
 exact ⟨p,q,r,by omega⟩
theorem refV_stays {bs:List UInt8} {n:Nat} (last:Bool) {k:Int} (h:0≤k) (h2:k≤n) (hn:n≤bs.length) (v:PV) (h6:(refV (bs.take n) false k v).2.2≠6) :
   refV bs last k v=refV (bs.take n) false k v∧refV (bs.take n) true k v=refV (bs.take n) false k v∧k≤(refV (bs.take n) false k v).2.1∧(refV (bs.take n) false k v).2.1≤n:=by
 unfold refV at h6 ⊢
 simp only at h6 ⊢
 by_cases hg6:(zae (bs.take n) k false).2.2.2=6
 · rw [if_pos (.inl (by rw [hg6]; decide)), hg6] at h6
   exact absurd rfl h6
 · have g:=same3 last h h2 hn hg6
   rw [g.a,g.b]
   by_cases hc:(zae (bs.take n) k false).2.2.2≠0∨zaH (zae (bs.take n) k false).1=false
   · simp only [if_pos hc]
     exact ⟨by trivial,by trivial,Int.le_refl _,h2⟩
   · simp only [if_neg hc] at h6 ⊢
     by_cases hr6:(zae (bs.take n) (zae (bs.take n) k false).2.2.1 false).2.2.2=6
     · rw [if_pos (.inl (by rw [hr6]; decide)), hr6] at h6
       exact absurd rfl h6
     · have r := same3 (n := n) last (k := (zae (bs.take n) k false).2.2.1) (by have := g.lo; omega) g.hi hn hr6
       rw [r.a,r.b]
       refine ⟨rfl,rfl,?_⟩
       split
       · exact ⟨Int.le_refl _,h2⟩
       · split
         · exact ⟨Int.le_refl _,h2⟩
         · have h3:=r.lo;have h4:=g.lo;exact ⟨Int.le_trans h4 h3,r.hi⟩
theorem zhe {bs:List UInt8} {n:Nat} (last:Bool) (st:List Lv) {k:Int} (h:0≤k) (h2:k≤n) (hn:n≤bs.length) (t:Tk) (h6:(zao (bs.take n) false st k t).2.2≠6) :
   zao bs last st k t=zao (bs.take n) false st k t∧zao (bs.take n) true st k t=zao (bs.take n) false st k t∧k≤(zao (bs.take n) false st k t).2.1∧(zao (bs.take n) false st k t).2.1≤n:=by
 unfold zao at h6 ⊢
 split
 · exact ⟨by trivial,by trivial,Int.le_refl _,h2⟩
 · rename_i q1
   rw [if_neg q1] at h6
   split
   · split
     · exact ⟨by trivial,by trivial,Int.le_refl _,h2⟩
     · exact ⟨by trivial,by trivial,Int.le_refl _,h2⟩
   · rename_i q2
     rw [if_neg q2] at h6
     split
     · rename_i q3
       rw [if_pos q3] at h6
       exact refV_stays last h h2 hn _ h6
     · exact ⟨by trivial,by trivial,Int.le_refl _,h2⟩
theorem stepV_stays {bs:List UInt8} {n:Nat} (last:Bool) (st:List Lv) {k:Int} (h:0≤k) (h2:k≤n) (hn:n≤bs.length) (t:Tk) (h6:(zau (bs.take n) false st k t).2.2.2≠6) :
   zau bs last st k t=zau (bs.take n) false st k t∧zau (bs.take n) true st k t=zau (bs.take n) false st k t∧k≤(zau (bs.take n) false st k t).2.2.1∧(zau (bs.take n) false st k t).2.2.1≤n:=by
 unfold zau at h6 ⊢
 split
 · exact ⟨by trivial,by trivial,Int.le_refl _,h2⟩
 · rename_i q1
   rw [if_neg q1] at h6
   split
   · exact ⟨by trivial,by trivial,Int.le_refl _,h2⟩
   · rename_i q2
     rw [if_neg q2] at h6
     split
     · simp only
       split
       · exact ⟨by trivial,by trivial,Int.le_refl _,h2⟩
       · exact ⟨by trivial,by trivial,Int.le_refl _,h2⟩
     · rename_i q3
       rw [if_neg q3] at h6
       simp only at h6 ⊢
       have h7:(zao (bs.take n) false st k t).2.2≠6:=by
         intro e
         rw [if_pos (by rw [e];decide)] at h6
         exact h6 e
       obtain ⟨r1,r2,r3,r4⟩:=zhe last st h h2 hn t h7
       rw [r1,r2]
       refine ⟨rfl,rfl,?_⟩
       split
       · exact ⟨r3,r4⟩
       · split
         · exact ⟨r3,r4⟩
         · exact ⟨r3,r4⟩
theorem ze5 {bs:List UInt8} {n:Nat} (last:Bool) (hn:n≤bs.length):∀(g:Nat) (st:List Lv) (k:Int) (V:PV×Int×Int),0≤k→k≤n→valO (bs.take n) false g st k=some V→V.2.2≠6→valO bs last g st k=some V∧valO (bs.take n) true g st k=some V
 | 0,_,_,_,_,_,hV,_=>by cases hV
 | g + 1, st, k, V, h, h2, hV, h6 => by
   unfold valO at hV ⊢
   simp only at hV ⊢
   have ht6:(zae (bs.take n) k false).2.2.2≠6:=by
     intro e
     rw [if_pos (by rw [e];decide),e] at hV
     cases hV
     exact h6 rfl
   have s:=same3 last h h2 hn ht6
   rw [s.a,s.b]
   by_cases he:(zae (bs.take n) k false).2.2.2≠0
   · simp only [if_pos he] at hV ⊢
     exact ⟨hV,hV⟩
   · simp only [if_neg he] at hV ⊢
     have hs6:(zau (bs.take n) false st (zae (bs.take n) k false).2.2.1 (zae (bs.take n) k false).1).2.2.2≠6:=by
       intro e
       rw [if_pos (by rw [e];decide),e] at hV
       cases hV
       exact h6 rfl
     have hlo:=s.lo
     obtain ⟨r1,r2,r3,r4⟩:=stepV_stays last st (k:=(zae (bs.take n) k false).2.2.1) (by omega) s.hi hn (zae (bs.take n) k false).1 hs6
     rw [r1,r2]
     generalize zau (bs.take n) false st (zae (bs.take n) k false).2.2.1 (zae (bs.take n) k false).1=Z at *
     obtain ⟨v,st2,at2,e2⟩:=Z
     simp only at hV r3 r4 ⊢
     by_cases h0:e2≠0
     · simp only [if_pos h0] at hV ⊢
       exact ⟨hV,hV⟩
     · simp only [if_neg h0] at hV ⊢
       cases v with
       | none=>exact ze5 last hn g st2 at2 V (by omega) r4 hV h6
       | some x =>
         cases st2 with
         | nil=>exact ⟨hV,hV⟩
         | cons top rest=>exact ze5 last hn g _ at2 V (by omega) r4 hV h6
mutual
def zcj:PV→Nat
 | .mk k _ _ l=>if k=6∨k=7 then 1+zha l else 1
def zha:List PV→Nat
 | []=>0
 | x::l=>max (zcj x) (zha l)
end
def ascV:List (PV×PV)→Bool
 | x::y::l=>sLt x.1.s y.1.s&&ascV (y::l)
 | _=>true
def zeG:List PV→Bool
 | []=>true
 | [a]=>a.kind==5
 | a::_::l=>a.kind==5&&zeG l
def ownC:PV→Int
 | .mk k n s l =>
   if k=0 then (if n=0∧s=[]∧l=[] then 0 else 2)
   else if k=1 then (if (n=0∨n=1)∧s=[]∧l=[] then 0 else 2)
   else if k=2∨k=3 then (if s=[]∧l=[] then zaS k n true else 2)
   else if k=4 then (if n=0∧l=[] then 0 else 2)
   else if k=5 then (if 127<s.length∨(0:UInt8)∈s then 17 else if n=0∧l=[] then 0 else 2)
   else if k=6 then (if n=0∧s=[] then 0 else 2)
   else if k=7 then (if n≠0∨s≠[]∨l.length % 2≠0 then 2 else if zeG l=false then 2 else if ascV (twoV l)=true then 0 else 16)
   else if k=8 then (if 1≤n∧n≤4096∧s=[]∧l=[] then 0 else 2)
   else 2
mutual
def zbI:PV→Int
 | .mk k n s l=>if ownC (.mk k n s l)≠0 then ownC (.mk k n s l) else if k=6∨k=7 then firstL l else 0
def firstL:List PV→Int
 | []=>0
 | x::l=>if zbI x≠0 then zbI x else firstL l
end
theorem zgM {n:Nat}:∀l:List PV,(∀x∈l,zcj x≤n)→zha l≤n
 | [],_=>by simp [zha]
 | x :: l, h => by
   have h1:=h x (List.mem_cons_self)
   have h2:=zgM l fun y hy=>h y (List.mem_cons_of_mem _ hy)
   simp only [zha];omega
theorem zeY:∀l:List PV,(∀x∈l,zbI x=0)→firstL l=0
 | [],_=>rfl
 | x :: l, h => by
   simp only [firstL]
   rw [if_neg (by simp [h x (List.mem_cons_self)])]
   exact zeY l fun y hy=>h y (List.mem_cons_of_mem _ hy)
theorem zdj:∀a b:List UInt8,sLt a b=false→a≠b→sLt b a=true
 | [],[],_,h=>absurd rfl h
 | [],_::_,h,_=>by simp [sLt] at h
 | _::_,[],_,_=>by simp [sLt]
 | x :: a, y :: b, h, hn => by
   simp only [sLt] at h ⊢
   by_cases h1:x.toNat<y.toNat
   · rw [if_pos h1] at h;cases h
   · rw [if_neg h1] at h
     by_cases h2:y.toNat<x.toNat
     · rw [if_pos h2]
     · rw [if_neg h2] at h ⊢
       rw [if_neg h1]
       have hxy:x=y:=UInt8.toNat_inj.1 (by omega)
       subst hxy
       exact zdj a b h fun e=>hn (by rw [e])
def zgF:List (PV×PV)→Prop
 | x::y::l=>sLt y.1.s x.1.s=false∧zgF (y::l)
 | _=>True
theorem sLt_as:∀a b:List UInt8,sLt a b=true→sLt b a=false
 | [],[],h=>by simp [sLt] at h
 | [],_::_,_=>by simp [sLt]
 | _::_,[],h=>by simp [sLt] at h
 | x :: a, y :: b, h => by
   simp only [sLt] at h ⊢
   by_cases h1:x.toNat<y.toNat
   · rw [if_neg (by omega),if_pos h1]
   · rw [if_neg h1] at h
     by_cases h2:y.toNat<x.toNat
     · rw [if_pos h2] at h;cases h
     · rw [if_neg h2] at h
       rw [if_neg h2,if_neg h1]
       exact sLt_as a b h
theorem ins_head (x:PV×PV):∀l,∃z t,insV x l=z::t∧(z=x∨∃t',l=z::t')
 | []=>⟨x,[],rfl,.inl rfl⟩
 | y :: l => by
   simp only [insV]
   split
   · exact ⟨y,_,rfl,.inr ⟨l,rfl⟩⟩
   · exact ⟨x,_,rfl,.inl rfl⟩
theorem zgQ {x:PV×PV} {l:List (PV×PV)} (h:zgF l) (hh:∀z t,l=z::t→sLt z.1.s x.1.s=false):zgF (x::l):=by
 cases l with
 | nil=>trivial
 | cons y t=>exact ⟨hh y t rfl,h⟩
theorem notGt_tail {x:PV×PV} {l:List (PV×PV)} (h:zgF (x::l)):zgF l:=by
 cases l with
 | nil=>trivial
 | cons y t=>exact h.2
theorem ins_notGt (x:PV×PV):∀l,zgF l→zgF (insV x l)
 | [],_=>trivial
 | y :: l, h => by
   simp only [insV]
   split
   · rename_i hy
     refine zgQ (ins_notGt x l (notGt_tail h)) fun z t hz=>?_
     obtain ⟨z',t',e1,e2⟩:=ins_head x l
     rw [e1] at hz
     have hzz:z'=z:=(List.cons.inj hz).1
     rcases e2 with e2|⟨t2,e2⟩
     · rw [←hzz,e2];exact sLt_as _ _ hy
     · rw [←hzz];subst e2;exact h.1
   · rename_i hy
     exact zgQ h fun z t hz => by
       have:y=z:=(List.cons.inj hz).1
       rw [←this]
       simpa using hy
theorem zdu:∀l,zgF (zd1 l)
 | []=>trivial
 | x::l=>ins_notGt x _ (zdu l)
theorem asc_of:∀l,zgF l→zb0 l=false→ascV l=true
 | [],_,_=>rfl
 | [_],_,_=>rfl
 | x :: y :: l, h, ht => by
   simp only [zb0,Bool.or_eq_false_iff,beq_eq_false_iff_ne] at ht
   simp only [ascV,Bool.and_eq_true]
   exact ⟨zdj _ _ h.1 (fun e=>ht.1 e.symm),asc_of (y::l) h.2 ht.2⟩
theorem ins_perm (x:PV×PV):∀l,(insV x l).Perm (x::l)
 | []=>List.Perm.refl _
 | y :: l => by
   simp only [insV]
   split
   · exact ((ins_perm x l).cons y).trans (List.Perm.swap x y l)
   · exact List.Perm.refl _
theorem zej:∀l,(zd1 l).Perm l
 | []=>List.Perm.refl _
 | x::l=>(ins_perm x _).trans ((zej l).cons x)
theorem flat_two:∀p,twoV (zb5 p)=p
 | []=>rfl
 | (a,b)::l=>by simp only [zb5,twoV];rw [flat_two l]
theorem zh5:∀l:List PV,l.length % 2=0→zb5 (twoV l)=l
 | [],_=>rfl
 | [_],h=>by simp at h
 | a::b::l,h=>by simp only [twoV,zb5];rw [zh5 l (by simp at h;omega)]
theorem flat_len:∀p,(zb5 p).length % 2=0
 | []=>rfl
 | (a,b)::l=>by have:=flat_len l;simp only [zb5,List.length_cons];omega
theorem zhO {x:PV}:∀p,x∈zb5 p↔∃q∈p,x=q.1∨x=q.2
 | []=>by simp [zb5]
 | (a, b) :: l => by
   simp only [zb5,List.mem_cons,zhO l]
   constructor
   · rintro (h|h|⟨q,hq,h⟩)
     · exact ⟨(a,b),.inl rfl,.inl h⟩
     · exact ⟨(a,b),.inl rfl,.inr h⟩
     · exact ⟨q,.inr hq,h⟩
   · rintro ⟨q,rfl|hq,h⟩
     · exact h.elim .inl (fun h=>.inr (.inl h))
     · exact .inr (.inr ⟨q,hq,h⟩)
theorem zeU : ∀ p : List (PV × PV), zeG (zb5 p) = p.all fun q => q.1.kind == 5
 | []=>rfl
 | (a,b)::l=>by simp only [zb5,zeG,List.all_cons];rw [zeU l]
theorem zg2:∀(l:List PV) (x:PV),zeG l=true→(l.length % 2=0→x.kind=5)→zeG (l++[x])=true
 | [],x,_,h=>by simpa [zeG] using h rfl
 | [a],x,h,_=>by simpa [zeG] using h
 | a :: b :: l, x, h, hx => by
   simp only [zeG,Bool.and_eq_true] at h
   simp only [List.cons_append,zeG,Bool.and_eq_true]
   exact ⟨h.1,zg2 l x h.2 fun h2=>hx (by simp;omega)⟩
theorem pairs_ok {l l2:List PV} (he:l.length % 2=0) (hn:zeG l=true) (h:zcJ l=some l2):l2.length % 2=0∧zeG l2=true∧ascV (twoV l2)=true∧∀x∈l2,x∈l:=by
 unfold zcJ at h
 split at h
 · cases h
 · rename_i ht
   cases h
   have hp:=zej (twoV l)
   refine ⟨flat_len _,?_,?_,fun x hx=>?_⟩
   · rw [zeU,List.all_eq_true]
     intro q hq
     have h1:=zeU (twoV l)
     rw [zh5 l he,hn] at h1
     exact List.all_eq_true.1 h1.symm q (hp.mem_iff.1 hq)
   · rw [flat_two]
     exact asc_of _ (zdu _) (by simpa using ht)
   · obtain ⟨q,hq,h1⟩:=(zhO _).1 hx
     rw [←zh5 l he]
     exact (zhO _).2 ⟨q,hp.mem_iff.1 hq,h1⟩
def lvOk (d:Nat) (v:Lv):Prop:=(∀x∈v.l,zbI x=0∧zcj x+d≤64)∧(v.dict=true→zeG v.l=true)
def stOk:List Lv→Prop
 | []=>True
 | v::rest=>lvOk (rest.length+1) v∧rest.length+1≤64∧topW rest=false∧stOk rest
theorem tk_depth {v:PV} (h:v.kind≠6) (h2:v.kind≠7):zcj v=1:=by
 obtain ⟨k,n,s,l⟩:=v
 simp only [zcj]
 rw [if_neg (by rintro (e|e);exact h e;exact h2 e)]
theorem first_own {v:PV} (h:ownC v=0) (h6:v.kind≠6) (h7:v.kind≠7):zbI v=0:=by
 obtain ⟨k,n,s,l⟩:=v
 simp only [zbI]
 rw [if_neg (by simp [h]),if_neg (by rintro (e|e);exact h6 e;exact h7 e)]
def tkOk (t:Tk):Prop:=0≤t.kind∧t.kind≤6∧(t.kind=1→ownC (tkV t)=0∧t.vk≠6∧t.vk≠7)
theorem tkn {t:Tk} (n:Nat) (e:t.kind=n) (h:n≤6) (h1:n≠1):tkOk t:=⟨by omega,by omega,fun h2=>by omega⟩
theorem tk1 {t:Tk} (e:t.kind=1) (ho:ownC (tkV t)=0) (h6:t.vk≠6) (h7:t.vk≠7):tkOk t:=⟨by omega,by omega,fun _=>⟨ho,h6,h7⟩⟩
theorem own_num {k n:Int} (hk:k=2∨k=3) (hc:zaS k n true=0):ownC (.mk k n [] [])=0:=by
 simp only [ownC]
 rw [if_neg (by omega),if_neg (by omega),if_pos hk,if_pos ⟨by trivial,by trivial⟩]
 exact hc
theorem own_ref {n:Int} (h1:1≤n) (h2:n≤4096):ownC (.mk 8 n [] [])=0:=by simp [ownC,h1,h2]
theorem word_ok {w:List UInt8} {v:PV} (h:zeM w=some v):zbI v=0∧zcj v=1:=by
 unfold zeM at h
 split at h
 · cases h;decide
 · split at h
   · cases h;decide
   · split at h
     · cases h;decide
     · cases h
theorem nameV_ok {w o:List UInt8} (h:zfK w=some o):¬(127<o.length∨(0:UInt8)∈o):=by
 unfold zfK at h
 split at h
 · cases h
 · split at h
   · cases h
   · rename_i hn
     cases h
     exact hn
theorem tokV_ok (last:Bool) (c:UInt8) (t:List UInt8) (h:(tokV last c t).1=0):tkOk (tokV last c t).2.1:=by
 unfold tokV at h ⊢
 split
 · rename_i q0
   rw [if_pos q0] at h
   try simp only at h ⊢
   split
   · rename_i q1;rw [if_pos q1] at h;cases h
   · rename_i q1
     rw [if_neg q1] at h
     split
     · rename_i q2
       rw [if_pos q2] at h
       have hc:=parseV_check _ h
       try simp only at hc
       have hk:(zaF ((c::t).takeWhile isRg)).1=2∨(zaF ((c::t).takeWhile isRg)).1=3:=by
         unfold zaS at hc
         split at hc
         · rename_i hq
           rcases hq.2 with hq|hq
           · exact .inl hq.1
           · exact .inr hq.1
         · cases hc
       refine tk1 rfl ?_ ?_ ?_
       · exact own_num hk hc
       · show (zaF _).1≠6;omega
       · show (zaF _).1≠7;omega
     · exact (by first|exact tkn 0 rfl (by decide) (by decide)|exact tkn 2 rfl (by decide) (by decide)|exact tkn 3 rfl (by decide) (by decide)|exact tkn 4 rfl (by decide) (by decide)|exact tkn 5 rfl (by decide) (by decide)|exact tkn 6 rfl (by decide) (by decide))
 · rename_i q0
   rw [if_neg q0] at h
   split
   · exact (by first|exact tkn 0 rfl (by decide) (by decide)|exact tkn 2 rfl (by decide) (by decide)|exact tkn 3 rfl (by decide) (by decide)|exact tkn 4 rfl (by decide) (by decide)|exact tkn 5 rfl (by decide) (by decide)|exact tkn 6 rfl (by decide) (by decide))
   · rename_i q1
     rw [if_neg q1] at h
     split
     · exact (by first|exact tkn 0 rfl (by decide) (by decide)|exact tkn 2 rfl (by decide) (by decide)|exact tkn 3 rfl (by decide) (by decide)|exact tkn 4 rfl (by decide) (by decide)|exact tkn 5 rfl (by decide) (by decide)|exact tkn 6 rfl (by decide) (by decide))
     · rename_i q2
       rw [if_neg q2] at h
       split
       · split
         · exact (by first|exact tkn 0 rfl (by decide) (by decide)|exact tkn 2 rfl (by decide) (by decide)|exact tkn 3 rfl (by decide) (by decide)|exact tkn 4 rfl (by decide) (by decide)|exact tkn 5 rfl (by decide) (by decide)|exact tkn 6 rfl (by decide) (by decide))
         · split
           · exact (by first|exact tkn 0 rfl (by decide) (by decide)|exact tkn 2 rfl (by decide) (by decide)|exact tkn 3 rfl (by decide) (by decide)|exact tkn 4 rfl (by decide) (by decide)|exact tkn 5 rfl (by decide) (by decide)|exact tkn 6 rfl (by decide) (by decide))
           · simp only
             split
             · exact tk1 rfl (by show ownC (.mk 4 0 _ [])=0;simp [ownC]) (by show (4:Int)≠6;decide) (by show (4:Int)≠7;decide)
             · split
               · exact (by first|exact tkn 0 rfl (by decide) (by decide)|exact tkn 2 rfl (by decide) (by decide)|exact tkn 3 rfl (by decide) (by decide)|exact tkn 4 rfl (by decide) (by decide)|exact tkn 5 rfl (by decide) (by decide)|exact tkn 6 rfl (by decide) (by decide))
               · exact (by first|exact tkn 0 rfl (by decide) (by decide)|exact tkn 2 rfl (by decide) (by decide)|exact tkn 3 rfl (by decide) (by decide)|exact tkn 4 rfl (by decide) (by decide)|exact tkn 5 rfl (by decide) (by decide)|exact tkn 6 rfl (by decide) (by decide))
       · rename_i q3
         rw [if_neg q3] at h
         split
         · split
           · exact (by first|exact tkn 0 rfl (by decide) (by decide)|exact tkn 2 rfl (by decide) (by decide)|exact tkn 3 rfl (by decide) (by decide)|exact tkn 4 rfl (by decide) (by decide)|exact tkn 5 rfl (by decide) (by decide)|exact tkn 6 rfl (by decide) (by decide))
           · split
             · exact (by first|exact tkn 0 rfl (by decide) (by decide)|exact tkn 2 rfl (by decide) (by decide)|exact tkn 3 rfl (by decide) (by decide)|exact tkn 4 rfl (by decide) (by decide)|exact tkn 5 rfl (by decide) (by decide)|exact tkn 6 rfl (by decide) (by decide))
             · exact (by first|exact tkn 0 rfl (by decide) (by decide)|exact tkn 2 rfl (by decide) (by decide)|exact tkn 3 rfl (by decide) (by decide)|exact tkn 4 rfl (by decide) (by decide)|exact tkn 5 rfl (by decide) (by decide)|exact tkn 6 rfl (by decide) (by decide))
         · rename_i q4
           rw [if_neg q4] at h
           split
           · split
             · exact (by first|exact tkn 0 rfl (by decide) (by decide)|exact tkn 2 rfl (by decide) (by decide)|exact tkn 3 rfl (by decide) (by decide)|exact tkn 4 rfl (by decide) (by decide)|exact tkn 5 rfl (by decide) (by decide)|exact tkn 6 rfl (by decide) (by decide))
             · exact tk1 rfl (by show ownC (.mk 4 0 _ [])=0;simp [ownC]) (by show (4:Int)≠6;decide) (by show (4:Int)≠7;decide)
           · rename_i q5
             rw [if_neg q5] at h
             split
             · simp only
               split
               · exact (by first|exact tkn 0 rfl (by decide) (by decide)|exact tkn 2 rfl (by decide) (by decide)|exact tkn 3 rfl (by decide) (by decide)|exact tkn 4 rfl (by decide) (by decide)|exact tkn 5 rfl (by decide) (by decide)|exact tkn 6 rfl (by decide) (by decide))
               · split
                 · exact (by first|exact tkn 0 rfl (by decide) (by decide)|exact tkn 2 rfl (by decide) (by decide)|exact tkn 3 rfl (by decide) (by decide)|exact tkn 4 rfl (by decide) (by decide)|exact tkn 5 rfl (by decide) (by decide)|exact tkn 6 rfl (by decide) (by decide))
                 · rename_i o ho
                   have hn:=nameV_ok ho
                   exact tk1 rfl (by show ownC (.mk 5 0 o [])=0;simp only [ownC];simp [hn]) (by show (5:Int)≠6;decide) (by show (5:Int)≠7;decide)
             · exact (by first|exact tkn 0 rfl (by decide) (by decide)|exact tkn 2 rfl (by decide) (by decide)|exact tkn 3 rfl (by decide) (by decide)|exact tkn 4 rfl (by decide) (by decide)|exact tkn 5 rfl (by decide) (by decide)|exact tkn 6 rfl (by decide) (by decide))
theorem zd5 {bs:List UInt8} {k:Int} (last:Bool) (h:0≤k) (h2:k≤bs.length):tkOk (zae bs k last).1:=by
 rw [zcZ last h h2]
 cases hd:bs.drop (zaW bs k) with
 | nil=>rw [zeh last hd];exact (by first|exact tkn 0 rfl (by decide) (by decide)|exact tkn 2 rfl (by decide) (by decide)|exact tkn 3 rfl (by decide) (by decide)|exact tkn 4 rfl (by decide) (by decide)|exact tkn 5 rfl (by decide) (by decide)|exact tkn 6 rfl (by decide) (by decide))
 | cons c t =>
   rw [zb8 last hd]
   split
   · rename_i h0;exact tokV_ok last c t h0
   · exact (by first|exact tkn 0 rfl (by decide) (by decide)|exact tkn 2 rfl (by decide) (by decide)|exact tkn 3 rfl (by decide) (by decide)|exact tkn 4 rfl (by decide) (by decide)|exact tkn 5 rfl (by decide) (by decide)|exact tkn 6 rfl (by decide) (by decide))
theorem zcR {bs:List UInt8} {k:Int} {last:Bool} (h:0≤k) (h2:k≤bs.length) (he:(zae bs k last).2.2.2=0) (hk:(zae bs k last).1.kind≠0):k<(zae bs k last).2.2.1:=by
 have:=(nextV_places last h h2).2.2 he hk
 omega
theorem refV_ok {bs:List UInt8} {last:Bool} {k:Int} (h:0≤k) (h2:k≤bs.length) {v:PV} (hv:ownC v=0) (hk:v.kind≠6∧v.kind≠7) (he:(refV bs last k v).2.2=0) :
   ownC (refV bs last k v).1=0∧(refV bs last k v).1.kind≠6∧(refV bs last k v).1.kind≠7∧k≤(refV bs last k v).2.1∧(refV bs last k v).2.1≤bs.length:=by
 obtain ⟨g1,g2⟩:=zaR last h h2
 unfold refV at he ⊢
 simp only at he ⊢
 split
 · exact ⟨hv,hk.1,hk.2,Int.le_refl _,h2⟩
 · rename_i q1
   simp only [if_neg q1] at he
   obtain ⟨r1,r2⟩:=zaR (bs:=bs) (k:=(zae bs k last).2.2.1) last (by omega) g2
   split
   · exact ⟨hv,hk.1,hk.2,Int.le_refl _,h2⟩
   · rename_i q2
     simp only [if_neg q2] at he
     split
     · rename_i q3;rw [if_pos q3] at he;cases he
     · rename_i q3
       refine ⟨?_,by show (8:Int)≠6;decide,by show (8:Int)≠7;decide,Int.le_trans g1 r1,r2⟩
       exact own_ref (by omega) (by omega)
theorem singleV_ok {bs:List UInt8} {last:Bool} {st:List Lv} {k:Int} (h:0≤k) (h2:k≤bs.length) {t:Tk} (ht:tkOk t) (hk:t.kind=1∨t.kind=6) (he:(zao bs last st k t).2.2=0) :
   zbI (zao bs last st k t).1=0∧zcj (zao bs last st k t).1=1∧(topW st=true→(zao bs last st k t).1.kind=5)∧k≤(zao bs last st k t).2.1∧(zao bs last st k t).2.1≤bs.length:=by
 unfold zao at he ⊢
 split
 · rename_i q;rw [if_pos q] at he;cases he
 · rename_i q
   rw [if_neg q] at he
   split
   · rename_i q6
     rw [if_pos q6] at he
     have hw:¬topW st=true:=fun e=>q ⟨e,.inl (by rw [q6];decide)⟩
     cases hwd:zeM t.s with
     | none=>rw [hwd] at he;cases he
     | some v =>
       obtain ⟨z1,z2⟩:=word_ok hwd
       exact ⟨z1,z2,fun e=>absurd e hw,Int.le_refl _,h2⟩
   · rename_i q6
     rw [if_neg q6] at he
     have h1:t.kind=1:=hk.resolve_right q6
     obtain ⟨o1,o2,o3⟩:=ht.2.2 h1
     split
     · rename_i qw
       rw [if_pos qw] at he
       obtain ⟨r1,r2,r3,r4,r5⟩:=refV_ok (last:=last) h h2 o1 ⟨o2,o3⟩ he
       have hw : ¬ topW st = true := fun e => q ⟨e, .inr (by
         unfold zaH at qw
         simp only [Bool.and_eq_true,beq_iff_eq] at qw
         rw [qw.2];decide)⟩
       exact ⟨first_own r1 r2 r3,tk_depth r2 r3,fun e=>absurd e hw,r4,r5⟩
     · refine ⟨first_own o1 o2 o3, tk_depth o2 o3, fun e => ?_, Int.le_refl _, h2⟩
       exact Decidable.byContradiction fun hn=>q ⟨e,.inr hn⟩
theorem lv_snoc {d:Nat} {v:Lv} {x:PV} (h:lvOk d v) (hx:zbI x=0∧zcj x+d≤64) (hw:zdd v=true→x.kind=5):lvOk d { v with l:=v.l++[x] }:=by
 refine ⟨fun y hy=>?_,fun hd=>zg2 _ _ (h.2 hd) fun h2=>hw (by unfold zdd;rw [show v.dict=true from hd];simp [h2])⟩
 rcases List.mem_append.1 hy with hy|hy
 · exact h.1 y hy
 · rw [List.mem_singleton.1 hy];exact hx
theorem end_ok {st:List Lv} {dict:Bool} (h:stOk st) (he:(zbr st dict).2.2=0) :
   ∃v rest,st=v::rest∧(zbr st dict).2.1=rest∧stOk rest∧zbI (zbr st dict).1=0∧zcj (zbr st dict).1+rest.length≤64∧topW rest=false:=by
 cases st with
 | nil=>cases he
 | cons v rest =>
   obtain ⟨h1,h2,hw0,h3⟩:=h
   have hd : ∀ l : List PV, (∀ x ∈ l, x ∈ v.l) → 1 + zha l + rest.length ≤ 64 := fun l hl => by
     have:=zgM (n:=63-rest.length) l fun x hx=>by have:=(h1.1 x (hl x hx)).2;omega
     omega
   refine ⟨v,rest,rfl,?_⟩
   unfold zbr at he ⊢
   simp only at he ⊢
   by_cases q1:v.dict≠dict∨(dict=true∧zdd v=false)
   · rw [if_pos q1] at he;cases he
   · rw [if_neg q1] at he ⊢
     by_cases q2:dict=false
     · rw [if_pos q2]
       refine ⟨rfl,h3,?_,?_,hw0⟩
       · simp only [zbI]
         rw [if_neg (by simp [ownC]),if_pos (by simp)]
         exact zeY _ fun x hx=>(h1.1 x hx).1
       · simp only [zcj]
         rw [if_pos (by simp)]
         exact hd v.l fun _ h=>h
     · rw [if_neg q2] at he ⊢
       have hdt:dict=true:=by cases dict;exact absurd rfl q2;rfl
       have hvd:v.dict=true:=Decidable.byContradiction fun hn=>q1 (.inl (by rw [hdt];exact hn))
       have hw:zdd v=true:=Decidable.byContradiction fun hn=>q1 (.inr ⟨hdt,by simpa using hn⟩)
       have hev:v.l.length % 2=0:=by
         unfold zdd at hw
         simp only [Bool.and_eq_true,beq_iff_eq] at hw
         exact hw.2
       cases hp:zcJ v.l with
       | none=>rw [hp] at he;cases he
       | some l2 =>
         obtain ⟨p1,p2,p3,p4⟩:=pairs_ok hev (h1.2 hvd) hp
         refine ⟨rfl,h3,?_,?_,hw0⟩
         · simp only [zbI]
           rw [if_neg (by simp [ownC,p1,p2,p3]),if_pos (by simp)]
           exact zeY _ fun x hx=>(h1.1 x (p4 x hx)).1
         · simp only [zcj]
           rw [if_pos (by simp)]
           exact hd l2 p4
theorem valO_may {bs:List UInt8} {last:Bool}:∀(g:Nat) (st:List Lv) (k:Int) (V:PV×Int×Int),0≤k→k≤bs.length→stOk st→valO bs last g st k=some V →
   (V.2.2=0→zbI V.1=0∧zcj V.1≤64∧k<V.2.1∧V.2.1≤bs.length)∧(V.2.2≠0→V.1=PV.none∧V.2.1=0)
 | 0,_,_,_,_,_,_,hV=>by cases hV
 | g + 1, st, k, V, h, h2, hs, hV => by
   unfold valO at hV
   simp only at hV
   by_cases he:(zae bs k last).2.2.2≠0
   · rw [if_pos he] at hV
     cases hV
     exact ⟨fun e=>absurd e he,fun _=>⟨rfl,rfl⟩⟩
   · rw [if_neg he] at hV
     have he0:(zae bs k last).2.2.2=0:=by simpa using he
     obtain ⟨g1,g2⟩:=zaR last h h2
     have hok:=zd5 last h h2
     have hfar:=zcR h h2 he0
     generalize (zae bs k last).2.2.1=to at *
     generalize (zae bs k last).1=t at *
     have key:∀v st2 at2 e2,zau bs last st to t=(v,st2,at2,e2)→e2=0→t.kind≠0∧to≤at2∧at2≤bs.length∧stOk st2∧(∀x,v=some x→zbI x=0∧zcj x+st2.length≤64∧(topW st2=true→x.kind=5)):=by
       intro v st2 at2 e2 hq e20
       subst e20
       unfold zau at hq
       by_cases k0:t.kind=0
       · rw [if_pos k0] at hq;cases hq
       · rw [if_neg k0] at hq
         refine ⟨k0,?_⟩
         by_cases k24:t.kind=2∨t.kind=4
         · rw [if_pos k24] at hq
           simp only [Prod.mk.injEq] at hq
           obtain ⟨rfl,q2,rfl,q4⟩:=hq
           refine ⟨Int.le_refl _,g2,?_,fun x hx=>by cases hx⟩
           unfold zch at q2 q4
           by_cases b1:topW st=true
           · rw [if_pos b1] at q4;cases q4
           · rw [if_neg b1] at q2 q4
             by_cases b2:64≤st.length
             · rw [if_pos b2] at q4;cases q4
             · rw [if_neg b2] at q2
               rw [←q2]
               exact ⟨⟨fun x hx=>(by cases hx),fun _=>rfl⟩,by omega,by simpa using b1,hs⟩
         · rw [if_neg k24] at hq
           by_cases k35:t.kind=3∨t.kind=5
           · rw [if_pos k35] at hq
             simp only at hq
             by_cases b1:(zbr st (t.kind==5)).2.2=0
             · rw [if_pos b1] at hq
               simp only [Prod.mk.injEq] at hq
               obtain ⟨rfl,rfl,rfl,-⟩:=hq
               obtain ⟨v0,rest,e1,e2,e3,e4,e5,e6⟩:=end_ok hs b1
               refine ⟨Int.le_refl _,g2,by rw [e2];exact e3,fun x hx=>?_⟩
               cases hx
               rw [e2]
               exact ⟨e4,e5,fun hw=>by rw [e6] at hw;cases hw⟩
             · rw [if_neg b1] at hq
               simp only [Prod.mk.injEq] at hq
               exact absurd hq.2.2.2 b1
           · rw [if_neg k35] at hq
             simp only at hq
             have hk16:t.kind=1∨t.kind=6:=by have:=hok.1;have:=hok.2.1;omega
             by_cases b1:(zao bs last st to t).2.2≠0
             · rw [if_pos b1] at hq
               simp only [Prod.mk.injEq] at hq
               exact absurd hq.2.2.2 b1
             · rw [if_neg b1] at hq
               by_cases b2:64≤st.length
               · rw [if_pos b2] at hq
                 simp only [Prod.mk.injEq] at hq
                 exact absurd hq.2.2.2 (by decide)
               · rw [if_neg b2] at hq
                 simp only [Prod.mk.injEq] at hq
                 obtain ⟨rfl,rfl,rfl,-⟩:=hq
                 obtain ⟨s1,s2,s3,s4,s5⟩:=singleV_ok (last:=last) (st:=st) (by omega) g2 hok hk16 (by simpa using b1)
                 exact ⟨s4,s5,hs,fun x hx=>by cases hx;exact ⟨s1,by omega,s3⟩⟩
     generalize hZ:zau bs last st to t=Z at hV key
     obtain ⟨v,st2,at2,e2⟩:=Z
     simp only at hV
     by_cases h0:e2≠0
     · rw [if_pos h0] at hV
       cases hV
       exact ⟨fun e=>absurd e h0,fun _=>⟨rfl,rfl⟩⟩
     · rw [if_neg h0] at hV
       obtain ⟨k1,k2,k3,k4,k5⟩:=key v st2 at2 e2 rfl (by simpa using h0)
       have hkt:=hfar k1
       have hrec : ∀ st3, stOk st3 → valO bs last g st3 at2 = some V → (V.2.2 = 0 → zbI V.1 = 0 ∧ zcj V.1 ≤ 64 ∧ k < V.2.1 ∧ V.2.1 ≤ bs.length) ∧ (V.2.2 ≠ 0 → V.1 = PV.none ∧ V.2.1 = 0) := fun st3 hs3 hv3 => by
         obtain ⟨p1,p2⟩:=valO_may g st3 at2 V (by omega) k3 hs3 hv3
         exact ⟨fun e=>by obtain ⟨z1,z2,z3,z4⟩:=p1 e;exact ⟨z1,z2,by omega,z4⟩,p2⟩
       cases v with
       | none=>exact hrec st2 k4 hV
       | some x =>
         obtain ⟨x1,x2,x3⟩:=k5 x rfl
         cases st2 with
         | nil =>
           cases hV
           exact ⟨fun _=>⟨x1,by simpa using x2,by show k<at2;omega,k3⟩,fun e=>absurd rfl e⟩
         | cons top rest =>
           obtain ⟨z1,z2,zw,z3⟩:=k4
           exact hrec ({ top with l:=top.l++[x] }::rest) (show lvOk _ _∧_∧_∧_ from ⟨lv_snoc z1 ⟨x1,by simp only [List.length_cons] at x2;omega⟩ (fun hw=>x3 hw),z2,zw,z3⟩) hV
theorem refV_at {bs:List UInt8} {last:Bool} {k:Int} (h:0≤k) (h2:k≤bs.length) (v:PV):k≤(refV bs last k v).2.1∧(refV bs last k v).2.1≤bs.length:=by
 obtain ⟨g1,g2⟩:=zaR last h h2
 unfold refV
 simp only
 split
 · exact ⟨Int.le_refl _,h2⟩
 · obtain ⟨r1, r2⟩ := zaR (bs := bs) (k := (zae bs k last).2.2.1) last (by omega) g2
   split
   · exact ⟨Int.le_refl _,h2⟩
   · split
     · exact ⟨Int.le_refl _,h2⟩
     · exact ⟨Int.le_trans g1 r1,r2⟩
theorem singleV_at {bs:List UInt8} {last:Bool} {k:Int} (h:0≤k) (h2:k≤bs.length) (st:List Lv) (t:Tk):k≤(zao bs last st k t).2.1∧(zao bs last st k t).2.1≤bs.length:=by
 unfold zao
 split
 · exact ⟨Int.le_refl _,h2⟩
 · split
   · split
     · exact ⟨Int.le_refl _,h2⟩
     · exact ⟨Int.le_refl _,h2⟩
   · split
     · exact refV_at h h2 _
     · exact ⟨Int.le_refl _,h2⟩
theorem zht {bs:List UInt8} {last:Bool} {k:Int} (h:0≤k) (h2:k≤bs.length) (st:List Lv) (t:Tk):k≤(zau bs last st k t).2.2.1∧(zau bs last st k t).2.2.1≤bs.length:=by
 unfold zau
 split
 · exact ⟨Int.le_refl _,h2⟩
 · split
   · exact ⟨Int.le_refl _,h2⟩
   · split
     · simp only
       split
       · exact ⟨Int.le_refl _,h2⟩
       · exact ⟨Int.le_refl _,h2⟩
     · simp only
       have:=singleV_at (last:=last) h h2 st t
       split
       · exact this
       · split
         · exact this
         · exact this
theorem zfa {bs:List UInt8} {last:Bool} {k:Int} {st:List Lv} {t:Tk} (h:(zau bs last st k t).2.2.2=0):t.kind≠0:=by
 intro e
 unfold zau at h
 rw [if_pos e] at h
 cases h
theorem zgp (bs:List UInt8) (last:Bool):∀(g:Nat) (st:List Lv) (k:Int),0≤k→k≤bs.length→((bs.length:Int)-k).toNat<g→∃V,valO bs last g st k=some V
 | 0,_,_,_,_,h=>by omega
 | g + 1, st, k, h, h2, hg => by
   unfold valO
   simp only
   by_cases he:(zae bs k last).2.2.2≠0
   · rw [if_pos he];exact ⟨_,rfl⟩
   · rw [if_neg he]
     have he0:(zae bs k last).2.2.2=0:=by simpa using he
     obtain ⟨g1,g2⟩:=zaR last h h2
     have hfar:=zcR h h2 he0
     generalize (zae bs k last).2.2.1=to at *
     generalize (zae bs k last).1=t at *
     obtain ⟨s1,s2⟩:=zht (bs:=bs) (last:=last) (k:=to) (by omega) g2 st t
     have sk:=zfa (bs:=bs) (last:=last) (k:=to) (st:=st) (t:=t)
     generalize zau bs last st to t=Z at *
     obtain ⟨v,st2,at2,e2⟩:=Z
     simp only at s1 s2 sk ⊢
     by_cases h0:e2≠0
     · rw [if_pos h0];exact ⟨_,rfl⟩
     · rw [if_neg h0]
       have hk:=hfar (sk (by simpa using h0))
       cases v with
       | none=>exact zgp bs last g st2 at2 (by omega) s2 (by omega)
       | some x =>
         cases st2 with
         | nil=>exact ⟨_,rfl⟩
         | cons top rest=>exact zgp bs last g _ at2 (by omega) s2 (by omega)
def insK (x:PV×PV):List (PV×PV)→List (PV×PV)
 | []=>[x]
 | y::l=>if sLt x.1.s y.1.s then x::y::l else y::insK x l
def hasK (s:List UInt8) (l:List (PV×PV)):Bool:=l.any fun y=>y.1.s==s
def repK (x:PV×PV):List (PV×PV)→List (PV×PV)
 | []=>[]
 | y::l=>if y.1.s=x.1.s then (y.1,x.2)::l else y::repK x l
def putK (x:PV×PV) (l:List (PV×PV)):List (PV×PV):=if hasK x.1.s l then repK x l else insK x l
def docS:List (PV×PV)→List (PV×PV)→Bool→List (PV×PV)×Bool
 | [],l,tw=>(l,tw)
 | x::p,l,tw=>docS p (putK x l) (tw||hasK x.1.s l)
def ascP:List (PV×PV)→Prop
 | []=>True
 | x::l=>(∀y∈l,sLt x.1.s y.1.s=true)∧ascP l
theorem sLt_tr:∀a b c:List UInt8,sLt a b=true→sLt b c=true→sLt a c=true
 | [],[],_,h,_=>by simp [sLt] at h
 | [],_::_,[],_,h=>by simp [sLt] at h
 | [],_::_,_::_,_,_=>by simp [sLt]
 | _::_,[],_,h,_=>by simp [sLt] at h
 | _::_,_::_,[],_,h=>by simp [sLt] at h
 | x :: a, y :: b, z :: c, h1, h2 => by
   simp only [sLt] at h1 h2 ⊢
   by_cases p1:x.toNat<y.toNat
   · by_cases p2:y.toNat<z.toNat
     · rw [if_pos (by omega)]
     · rw [if_neg p2] at h2
       by_cases p3:z.toNat<y.toNat
       · rw [if_pos p3] at h2;cases h2
       · rw [if_pos (by omega)]
   · rw [if_neg p1] at h1
     by_cases p4:y.toNat<x.toNat
     · rw [if_pos p4] at h1;cases h1
     · rw [if_neg p4] at h1
       by_cases p2:y.toNat<z.toNat
       · rw [if_pos (by omega)]
       · rw [if_neg p2] at h2
         by_cases p3:z.toNat<y.toNat
         · rw [if_pos p3] at h2;cases h2
         · rw [if_neg p3] at h2
           rw [if_neg (by omega),if_neg (by omega)]
           exact sLt_tr a b c h1 h2
theorem sLt_ir:∀a:List UInt8,sLt a a=false
 | []=>rfl
 | x::a=>by simp only [sLt];rw [if_neg (by omega),if_neg (by omega)];exact sLt_ir a
theorem zhW {x y:PV×PV}:∀l,y∈insK x l↔y=x∨y∈l
 | []=>by simp [insK]
 | z :: l => by
   simp only [insK]
   split
   · simp
   · rw [List.mem_cons,zhW l,List.mem_cons]
     constructor
     · rintro (h|h|h)
       · exact .inr (.inl h)
       · exact .inl h
       · exact .inr (.inr h)
     · rintro (h|h|h)
       · exact .inr (.inl h)
       · exact .inl h
       · exact .inr (.inr h)
theorem zgy (x:PV×PV):∀l,(insK x l).Perm (x::l)
 | []=>List.Perm.refl _
 | y :: l => by
   simp only [insK]
   split
   · exact List.Perm.refl _
   · exact ((zgy x l).cons y).trans (List.Perm.swap x y l)
theorem insK_asc {x:PV×PV}:∀l,ascP l→hasK x.1.s l=false→ascP (insK x l)
 | [],_,_=>⟨fun y hy=>(by cases hy),trivial⟩
 | y :: l, h, hh => by
   simp only [hasK,List.any_cons,Bool.or_eq_false_iff,beq_eq_false_iff_ne] at hh
   simp only [insK]
   split
   · rename_i hlt
     refine ⟨fun z hz=>?_,h⟩
     rcases List.mem_cons.1 hz with rfl|hz
     · exact hlt
     · exact sLt_tr _ _ _ hlt (h.1 z hz)
   · rename_i hlt
     have hyx:sLt y.1.s x.1.s=true:=zdj _ _ (by simpa using hlt) (fun e=>hh.1 e.symm)
     refine ⟨fun z hz=>?_,insK_asc l h.2 hh.2⟩
     rcases (zhW l).1 hz with rfl|hz
     · exact hyx
     · exact h.1 z hz
theorem zg6:∀l m:List (PV×PV),ascP l→ascP m→l.Perm m→l=m
 | [],m,_,_,h=>(List.Perm.nil_eq h).symm▸rfl
 | x::l,[],_,_,h=>absurd h.length_eq (by simp)
 | x :: l, y :: m, hl, hm, h => by
   have hxy:x=y:=by
     have h1:x∈y::m:=h.mem_iff.1 (List.mem_cons_self)
     have h2:y∈x::l:=h.mem_iff.2 (List.mem_cons_self)
     rcases List.mem_cons.1 h1 with h1|h1
     · exact h1
     · rcases List.mem_cons.1 h2 with h2|h2
       · exact h2.symm
       · have a1:=hm.1 x h1
         have a2:=hl.1 y h2
         rw [sLt_as _ _ a1] at a2
         cases a2
   subst hxy
   rw [zg6 l m hl.2 hm.2 ((List.perm_cons x).1 h)]
theorem zeJ:∀l:List (PV×PV),zgF l→zb0 l=false→ascP l
 | [],_,_=>trivial
 | [x],_,_=>⟨fun y hy=>(by cases hy),trivial⟩
 | x :: y :: l, h, ht => by
   simp only [zb0,Bool.or_eq_false_iff,beq_eq_false_iff_ne] at ht
   have hr:=zeJ (y::l) h.2 ht.2
   have hxy:sLt x.1.s y.1.s=true:=zdj _ _ h.1 (fun e=>ht.1 e.symm)
   refine ⟨fun z hz=>?_,hr⟩
   rcases List.mem_cons.1 hz with rfl|hz
   · exact hxy
   · exact sLt_tr _ _ _ hxy (hr.1 z hz)
def zgt:List (PV×PV)→Prop
 | []=>True
 | x::l=>(∀y∈l,y.1.s≠x.1.s)∧zgt l
theorem zcf {l m:List (PV×PV)} (h:l.Perm m):zgt l→zgt m:=by
 induction h with
 | nil=>exact id
 | cons x h ih=>exact fun ⟨h1,h2⟩=>⟨fun y hy=>h1 y (h.mem_iff.2 hy),ih h2⟩
 | swap x y l =>
   rintro ⟨h1,h2,h3⟩
   refine ⟨fun z hz=>?_,fun z hz=>h1 z (List.mem_cons_of_mem _ hz),h3⟩
   rcases List.mem_cons.1 hz with rfl|hz
   · exact fun e=>h1 x (List.mem_cons_self) e.symm
   · exact h2 z hz
 | trans _ _ ih1 ih2=>exact fun h=>ih2 (ih1 h)
theorem zgq:∀l:List (PV×PV),zb0 l=true→¬zgt l
 | [],h,_=>by cases h
 | [_],h,_=>by cases h
 | x :: y :: l, h, hn => by
   simp only [zb0,Bool.or_eq_true,beq_iff_eq] at h
   rcases h with h|h
   · exact hn.1 y (List.mem_cons_self) h.symm
   · exact zgq (y::l) h hn.2
theorem zgf:∀l:List (PV×PV),ascP l→zgt l
 | [],_=>trivial
 | x::l,h=>⟨fun y hy e=>(by have:=h.1 y hy;rw [e,sLt_ir] at this;cases this),zgf l h.2⟩
theorem hasK_no {s:List UInt8} {l:List (PV×PV)}:hasK s l=false↔∀y∈l,y.1.s≠s:=by
 unfold hasK
 rw [List.any_eq_false]
 simp
theorem docS_tw:∀p l,(docS p l true).2=true
 | [],_=>rfl
 | x::p,l=>by simp only [docS,Bool.true_or];exact docS_tw p _
theorem docS_is:∀(p l:List (PV×PV)),ascP l→((docS p l false).2=false→ascP (docS p l false).1∧(docS p l false).1.Perm (l++p))∧((docS p l false).2=true→¬zgt (l++p))
 | [],l,h=>⟨fun _=>⟨h,by simp [docS]⟩,fun e=>by cases e⟩
 | x :: p, l, h => by
   simp only [docS,Bool.false_or]
   cases hk:hasK x.1.s l with
   | true =>
     refine ⟨fun e=>?_,fun _ hn=>?_⟩
     · rw [docS_tw] at e;cases e
     · have h1:=zcf (List.perm_middle) hn
       have h2:hasK x.1.s l=false:=hasK_no.2 fun y hy=>h1.1 y (List.mem_append_left _ hy)
       rw [hk] at h2;cases h2
   | false =>
     have e1:putK x l=insK x l:=by unfold putK;rw [hk];rfl
     rw [e1]
     obtain ⟨r1,r2⟩:=docS_is p (insK x l) (insK_asc l h hk)
     have hp:(insK x l++p).Perm (l++x::p):=((zgy x l).append_right p).trans (List.perm_middle.symm)
     exact ⟨fun e=>⟨(r1 e).1,(r1 e).2.trans hp⟩,fun e hn=>r2 e (zcf hp.symm hn)⟩
theorem pairs_doc (l:List PV):zcJ l=if (docS (twoV l) [] false).2=true then none else some (zb5 (docS (twoV l) [] false).1):=by
 obtain ⟨r1,r2⟩:=docS_is (twoV l) [] trivial
 have hp:=zej (twoV l)
 unfold zcJ
 cases hd:(docS (twoV l) [] false).2 with
 | true =>
   have hn:=r2 hd
   have ht:zb0 (zd1 (twoV l))=true:=by
     cases h:zb0 (zd1 (twoV l)) with
     | true=>rfl
     | false=>exact absurd (zcf hp (zgf _ (zeJ _ (zdu _) h))) hn
   rw [if_pos ht,if_pos rfl]
 | false =>
   obtain ⟨q1,q2⟩:=r1 hd
   have hn:zgt (twoV l):=zcf q2 (zgf _ q1)
   have ht:zb0 (zd1 (twoV l))=false:=by
     cases h:zb0 (zd1 (twoV l)) with
     | false=>rfl
     | true=>exact absurd (zcf hp.symm hn) (zgq _ h)
   rw [if_neg (by simp [ht]),if_neg (by simp)]
   rw [zg6 _ _ (zeJ _ (zdu _) ht) q1 (hp.trans q2.symm)]
theorem docS_snoc:∀(p:List (PV×PV)) (x:PV×PV) (l:List (PV×PV)) (tw:Bool),docS (p++[x]) l tw=(putK x (docS p l tw).1,(docS p l tw).2||hasK x.1.s (docS p l tw).1)
 | [],_,_,_=>rfl
 | y::p,x,l,tw=>by simp only [List.cons_append,docS];exact docS_snoc p x _ _
theorem two_snoc:∀(l:List PV) (a b:PV),l.length % 2=0→twoV (l++[a,b])=twoV l++[(a,b)]
 | [],_,_,_=>rfl
 | [_],_,_,h=>by simp at h
 | x::y::l,a,b,h=>by simp only [List.cons_append,twoV];rw [two_snoc l a b (by simp at h;omega)]
end Go.Proofs.YtkhcjoomijkfbaaGreatDoor
